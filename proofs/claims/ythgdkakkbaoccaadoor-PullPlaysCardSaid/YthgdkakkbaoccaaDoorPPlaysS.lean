import Derived.Test.YthgdkakkbaoccaaDoorPPlays
import Derived.Deep.QuietTactic
import Derived.BigQuiet
import Derived.Deep.DeepCutAuto
import Derived.Deep.RegionHeld3
import Derived.Deep.MidRow
/-! The steps of the law PullPlays, both objects side by side. -/
namespace Go.Proofs.YthgdkakkbaoccaaDoor
open Go.RowKit
set_option linter.unusedVariables false
set_option linter.unusedSimpArgs false
/-- what holds between the steps -/
structure StP (M : Nat) (w0 : World) (th : Int) (b : Nat) (mp : Nat → Nat) (rb i : Nat) (now : Int) (told asked : Nat → Int) (C : Nat → Nat) (F : Nat → Int → Option Int) (v : Value) (L : List Wt) (y : World) : Prop where
  p : Pul M y b now th mp told asked C F
  r : RPul M y rb now th v L told asked
  rel : PR2 L F
  len : L.length ≤ i
  cnt : ∀ t, C t ≤ i
  ask : ∀ t, 0 ≤ asked t ∧ asked t ≤ 1000001
  clk : 0 ≤ now ∧ now ≤ 1000000
  kb : Below M w0 y
def StE (M : Nat) (w0 : World) (th : Int) (b : Nat) (mp : Nat → Nat) (rb i : Nat) (y : World) : Prop := ∃ now told asked C F v L, StP M w0 th b mp rb i now told asked C F v L y
theorem StP.bnd {M : Nat} {w0 : World} {th : Int} {b : Nat} {mp : Nat → Nat} {rb i : Nat} {now : Int} {told asked : Nat → Int} {C : Nat → Nat} {F : Nat → Int → Option Int} {v : Value} {L : List Wt} {y : World} (h : StP M w0 th b mp rb i now told asked C F v L y) : ∀ x ∈ L, 0 ≤ x.lay := fun x hx => (h.rel.rel.ok x hx).2.1
/-- the state with a step's array -/
def StA (M : Nat) (w0 : World) (th : Int) (b : Nat) (mp : Nat → Nat) (rb i A : Nat) (a : Nat → Int) (y : World) : Prop := StE M w0 th b mp rb i y ∧ Arr4 y A a
theorem StA.below {M : Nat} {w0 : World} {th : Int} {b : Nat} {mp : Nat → Nat} {rb i A : Nat} {a : Nat → Int} {y y' : World} (h : StA M w0 th b mp rb i A a y) (hM : M ≤ w0.heap.size) (k : Below y.heap.size y y') : StA M w0 th b mp rb i A a y' := by
  obtain ⟨⟨now, told, asked, C, F, v, L, s⟩, ha⟩ := h
  exact ⟨⟨now, told, asked, C, F, v, L, ⟨s.p.below k, s.r.below k, s.rel, s.len, s.cnt, s.ask, s.clk, s.kb.trans (k.mono (Nat.le_trans hM s.kb.size))⟩⟩, Below.heapAt k ha (lt_of_block ha)⟩
theorem StA.kb {M : Nat} {w0 : World} {th : Int} {b : Nat} {mp : Nat → Nat} {rb i A : Nat} {a : Nat → Int} {y : World} (h : StA M w0 th b mp rb i A a y) : Below M w0 y := by
  obtain ⟨⟨now, told, asked, C, F, v, L, s⟩, ha⟩ := h
  exact s.kb
/-- two turns of both, one behind the other: Want -/
theorem plays_want (M A : Nat) (w0 : World) (hM : M ≤ w0.heap.size) (th : Int) (b : Nat) (mp : Nat → Nat) (rb i : Nat) (hi : i ≤ 1000) (a : Nat → Int) (y : World) (h : StA M w0 th b mp rb i A a y) :
    ∃ (k : Int) (Q0 Q1 : World → Prop), Q0 y ∧ (∀ z, Q0 z → Q0 z.drew ∧ Arr4 z A a) ∧ (∀ z, Q1 z → Q1 z.drew ∧ Arr4 z A a) ∧
      (∀ z, Q0 z → Calls Tryd.prog 39 #[.pointer (some ⟨b, 0, none⟩), .int .i64 (a 1), .int .i64 (a 2), .int .i64 (a 3)] z fun e w' => e = .returned (errV k) ∧ Q1 w') ∧
      ∀ z, Q1 z → Calls Tryd.prog 45 #[.pointer (some ⟨rb, 0, none⟩), .int .i64 (a 1), .int .i64 (a 2), .int .i64 (a 3)] z fun e w' => e = .returned (.int .i64 k) ∧ StA M w0 th b mp rb (i + 1) A a w' := by
  obtain ⟨⟨now, told, asked, C, F, v, L, s⟩, ha⟩ := h
  have J : QJ M A w0 a b mp rb th now told asked C F now told asked v L y := ⟨s.p, s.r, ha, s.kb⟩
  by_cases hok : Pl.rightOk (a 1) (a 2) ∧ 0 ≤ a 3 ∧ a 3 ≤ 3
  · obtain ⟨hr, hl⟩ := hok
    obtain ⟨t, ht⟩ : ∃ t : Nat, a 2 = t := ⟨(a 2).toNat, by have := hr.2.2.1; omega⟩
    have hr' := hr
    rw [ht] at hr'
    refine ⟨0, QJ M A w0 a b mp rb th now told asked C F now told asked v L, QJ M A w0 a b mp rb th now told asked (wantC C F t (a 1)) (wantF F t (a 1) (a 3)) now told asked v L, J, fun z hz => ⟨hz.drew, hz.arr⟩, fun z hz => ⟨hz.drew, hz.arr⟩, fun z hz => ?_, fun z hz => ?_⟩
    · rw [ht]
      exact (pullWant_ok M b now th mp told asked C F (a 1) t (a 3) hr' hl (by have := s.cnt t; omega) z hz.p).mono fun e w' ⟨h1, h2, h3⟩ => ⟨h1, hz.prog hM h2 h3⟩
    · refine (rPullWant_ok M rb now th v L told asked (a 1) (a 2) (a 3) hr hl (by have := s.len; omega) z (hz.size hM) hz.r).mono fun e w' ⟨v', L', h1, h2, h3, h4⟩ => ⟨h1, ?_⟩
      rw [ht] at h2
      have J2 := hz.ref hM h3 h4
      exact ⟨⟨now, told, asked, _, _, v', L', ⟨J2.p, J2.r, s.rel.want (a 1) t (a 3) hr' hl h2, by have := h2.len; have := s.len; omega, wantC_le s.cnt, s.ask, s.clk, J2.kb⟩⟩, J2.arr⟩
  · refine ⟨1, QJ M A w0 a b mp rb th now told asked C F now told asked v L, QJ M A w0 a b mp rb th now told asked C F now told asked v L, J, fun z hz => ⟨hz.drew, hz.arr⟩, fun z hz => ⟨hz.drew, hz.arr⟩, fun z hz => ?_, fun z hz => ?_⟩
    · exact (pullWant_bad b (a 1) (a 2) (a 3) hok z).mono fun e w' ⟨h1, h2⟩ => ⟨h1, hz.below hM h2⟩
    · exact (rPullWant_bad rb (a 1) (a 2) (a 3) hok z).mono fun e w' ⟨h1, h2⟩ => ⟨h1, by
        subst h2
        exact ⟨⟨now, told, asked, C, F, v, L, ⟨hz.p, hz.r, s.rel, by have := s.len; omega, fun t => by have := s.cnt t; omega, s.ask, s.clk, hz.kb⟩⟩, hz.arr⟩⟩
theorem dropC_le {C : Nat → Nat} {i t : Nat} (h : ∀ j, C j ≤ i) : ∀ j, dropC C t j ≤ i + 1 := fun j => by
  unfold dropC
  have := h j; have := h t
  split <;> omega
/-- .. Drop -/
theorem plays_drop (M A : Nat) (w0 : World) (hM : M ≤ w0.heap.size) (th : Int) (b : Nat) (mp : Nat → Nat) (rb i : Nat) (hi : i ≤ 1000) (a : Nat → Int) (y : World) (h : StA M w0 th b mp rb i A a y) :
    ∃ (k : Int) (Q0 Q1 : World → Prop), Q0 y ∧ (∀ z, Q0 z → Q0 z.drew ∧ Arr4 z A a) ∧ (∀ z, Q1 z → Q1 z.drew ∧ Arr4 z A a) ∧
      (∀ z, Q0 z → Calls Tryd.prog 42 #[.pointer (some ⟨b, 0, none⟩), .int .i64 (a 1), .int .i64 (a 2)] z fun e w' => e = .returned (errV k) ∧ Q1 w') ∧
      ∀ z, Q1 z → Calls Tryd.prog 46 #[.pointer (some ⟨rb, 0, none⟩), .int .i64 (a 1), .int .i64 (a 2)] z fun e w' => e = .returned (.int .i64 k) ∧ StA M w0 th b mp rb (i + 1) A a w' := by
  obtain ⟨⟨now, told, asked, C, F, v, L, s⟩, ha⟩ := h
  have J : QJ M A w0 a b mp rb th now told asked C F now told asked v L y := ⟨s.p, s.r, ha, s.kb⟩
  by_cases hr : Pl.rightOk (a 1) (a 2)
  · obtain ⟨t, ht⟩ : ∃ t : Nat, a 2 = t := ⟨(a 2).toNat, by have := hr.2.2.1; omega⟩
    have hr' := hr
    rw [ht] at hr'
    cases hF : F t (a 1) with
    | none =>
      refine ⟨5, QJ M A w0 a b mp rb th now told asked C F now told asked v L, QJ M A w0 a b mp rb th now told asked C F now told asked v L, J, fun z hz => ⟨hz.drew, hz.arr⟩, fun z hz => ⟨hz.drew, hz.arr⟩, fun z hz => ?_, fun z hz => ?_⟩
      · rw [ht]
        exact (pullDrop_none M b now th mp told asked C F (a 1) t hr' hF z hz.p).mono fun e w' ⟨h1, h2⟩ => ⟨h1, h2 ▸ hz⟩
      · refine (rPullDrop_ok M rb now th v L told asked (a 1) (a 2) hr (by have := s.len; omega) z (hz.size hM) hz.r).mono fun e w' ⟨f, v', L', h1, h2, h3, h4⟩ => ?_
        rcases h2 with ⟨rfl, rfl, _⟩ | ⟨_, j, hj, h5, _⟩
        · have J2 := hz.ref hM h3 h4
          exact ⟨h1, ⟨now, told, asked, C, F, v', L', ⟨J2.p, J2.r, s.rel, by have := s.len; omega, fun t => by have := s.cnt t; omega, s.ask, s.clk, J2.kb⟩⟩, J2.arr⟩
        · exfalso
          obtain ⟨e1, e2⟩ := isWt_iff.1 h5
          have := s.rel.rel.into L[j] (List.getElem_mem hj)
          rw [e1, e2, ht, show ((t : Int)).toNat = t by omega, hF] at this
          cases this
    | some lay =>
      refine ⟨0, QJ M A w0 a b mp rb th now told asked C F now told asked v L, QJ M A w0 a b mp rb th now told asked (dropC C t) (dropF F t (a 1)) now told asked v L, J, fun z hz => ⟨hz.drew, hz.arr⟩, fun z hz => ⟨hz.drew, hz.arr⟩, fun z hz => ?_, fun z hz => ?_⟩
      · rw [ht]
        exact (pullDrop_ok M b now th mp told asked C F (a 1) t hr' lay hF z hz.p).mono fun e w' ⟨h1, h2, h3⟩ => ⟨h1, hz.prog hM h2 h3⟩
      · refine (rPullDrop_ok M rb now th v L told asked (a 1) (a 2) hr (by have := s.len; omega) z (hz.size hM) hz.r).mono fun e w' ⟨f, v', L', h1, h2, h3, h4⟩ => ?_
        have hlen := h2.len
        rcases h2 with ⟨_, _, h5⟩ | ⟨rfl, j, hj, h5, rfl⟩
        · exfalso
          have := h5 _ (s.rel.rel.fro t (a 1) lay hF)
          rw [show isWt (a 1) (a 2) ⟨a 1, (t : Int), lay⟩ = true from isWt_iff.2 ⟨rfl, ht.symm⟩] at this
          cases this
        · have J2 := hz.ref hM h3 h4
          obtain ⟨e1, e2⟩ := isWt_iff.1 h5
          exact ⟨h1, ⟨now, told, asked, _, _, v', _, ⟨J2.p, J2.r, s.rel.drop j hj (a 1) t e1 (e2.trans ht), by have := s.len; omega, dropC_le s.cnt, s.ask, s.clk, J2.kb⟩⟩, J2.arr⟩
  · refine ⟨1, QJ M A w0 a b mp rb th now told asked C F now told asked v L, QJ M A w0 a b mp rb th now told asked C F now told asked v L, J, fun z hz => ⟨hz.drew, hz.arr⟩, fun z hz => ⟨hz.drew, hz.arr⟩, fun z hz => ?_, fun z hz => ?_⟩
    · exact (pullDrop_bad b (a 1) (a 2) hr z).mono fun e w' ⟨h1, h2⟩ => ⟨h1, h2 ▸ hz⟩
    · exact (rPullDrop_bad rb (a 1) (a 2) hr z).mono fun e w' ⟨h1, h2⟩ => ⟨h1, by
        subst h2
        exact ⟨⟨now, told, asked, C, F, v, L, ⟨hz.p, hz.r, s.rel, by have := s.len; omega, fun t => by have := s.cnt t; omega, s.ask, s.clk, hz.kb⟩⟩, hz.arr⟩⟩
theorem askN_bound {asked : Nat → Int} {t : Nat} {th now : Int} (h : ∀ t, 0 ≤ asked t ∧ asked t ≤ 1000001) (hn : 0 ≤ now ∧ now ≤ 1000000) : ∀ j, 0 ≤ askN asked t th now j ∧ askN asked t th now j ≤ 1000001 := fun j => by
  unfold askN
  have := h j; have := h t
  split
  · split <;> omega
  · omega
/-- .. Ask: the reference first -/
theorem plays_ask (M A : Nat) (w0 : World) (hM : M ≤ w0.heap.size) (th : Int) (b : Nat) (mp : Nat → Nat) (rb i : Nat) (hi : i ≤ 1000) (a : Nat → Int) (y : World) (h : StA M w0 th b mp rb i A a y) :
    ∃ (k : Int) (B : Bool) (Q1 : World → Prop), (∀ z, Q1 z → Q1 z.drew ∧ Arr4 z A a) ∧
      (Calls Tryd.prog 49 #[.pointer (some ⟨rb, 0, none⟩), .int .i64 (a 2), .int .i64 (a 3)] y fun e w' => e = .returned (.tuple #[.bool B, .int .i64 k]) ∧ Q1 w') ∧
      ∀ z, Q1 z → Calls Tryd.prog 43 #[.pointer (some ⟨b, 0, none⟩), .int .i64 (a 2), .int .i64 (a 3)] z fun e w' => e = .returned (.tuple #[.bool B, errV k]) ∧ StA M w0 th b mp rb (i + 1) A a w' := by
  obtain ⟨⟨now, told, asked, C, F, v, L, s⟩, ha⟩ := h
  have J : QJ M A w0 a b mp rb th now told asked C F now told asked v L y := ⟨s.p, s.r, ha, s.kb⟩
  have hL : L.length ≤ 100000 := by have := s.len; omega
  have same : ∀ z, QJ M A w0 a b mp rb th now told asked C F now told asked v L z → StA M w0 th b mp rb (i + 1) A a z := fun z hz =>
    ⟨⟨now, told, asked, C, F, v, L, ⟨hz.p, hz.r, s.rel, by have := s.len; omega, fun t => by have := s.cnt t; omega, s.ask, s.clk, hz.kb⟩⟩, hz.arr⟩
  by_cases hg : (1 ≤ a 2 ∧ a 2 ≤ 8) ∧ 0 ≤ a 3 ∧ a 3 ≤ 1000000
  · obtain ⟨ht, h0⟩ := hg
    obtain ⟨t, et⟩ : ∃ t : Nat, a 2 = t := ⟨(a 2).toNat, by omega⟩
    have ht' : 1 ≤ t ∧ t ≤ 8 := by omega
    by_cases hb : a 3 < now
    · refine ⟨6, false, QJ M A w0 a b mp rb th now told asked C F now told asked v L, fun z hz => ⟨hz.drew, hz.arr⟩, ?_, fun z hz => ?_⟩
      · exact (rPullAsk_back M rb now th v L told asked (a 2) (a 3) ht h0 hb y s.r).mono fun e w' ⟨h1, h2⟩ => ⟨h1, h2 ▸ J⟩
      · rw [et]
        exact (pullAsk_back M b now th mp told asked C F t ht' (a 3) h0 (fun e => by unfold Pl.clockOk at e; omega) z hz.p).mono fun e w' ⟨h1, h2⟩ => ⟨h1, h2 ▸ same z hz⟩
    · have hc : Pl.clockOk now (a 3) := ⟨h0.1, h0.2, by omega⟩
      by_cases hC : C t = 0
      · have hno : ∀ n, NeedL L (a 2) n → n = -1 := fun n hn => by
          rw [et] at hn
          obtain ⟨_, _, h3⟩ := s.rel.need t n hn
          rcases h3 with h3 | ⟨j, hj⟩
          · exact h3
          · have := pos_of_some (s.p.map t (by omega)) plaw Tryd.underlying3 j (by rw [WF.isSome, hj]; rfl)
            omega
        refine ⟨5, false, QJ M A w0 a b mp rb th now told asked C F now told asked v L, fun z hz => ⟨hz.drew, hz.arr⟩, ?_, fun z hz => ?_⟩
        · exact (rPullAsk_none M rb now th v L told asked (a 2) (a 3) ht hc hL s.bnd hno y s.r).mono fun e w' ⟨h1, h2⟩ => ⟨h1, h2 ▸ J⟩
        · rw [et]
          exact (pullAsk_none M b now th mp told asked C F t ht' (a 3) hc hC z hz.p).mono fun e w' ⟨h1, h2⟩ => ⟨h1, h2 ▸ same z hz⟩
      · have hyes : ∀ n, NeedL L (t : Int) n → 0 ≤ n := fun n hn => by
          have hn' := s.rel.need t n hn
          by_cases hno : ∀ i, F t i = none
          · have := count_zero (s.p.map t (by omega)) plaw Tryd.underlying3 (fun i => by unfold WF; rw [hno i]; rfl)
            omega
          · obtain ⟨j, hj⟩ := Classical.not_forall.1 hno
            cases e : F t j with
            | none => exact absurd e hj
            | some x =>
              have := hn'.2.1 j x e
              have := (s.rel.rel.bound t j x e).1
              omega
        refine ⟨0, Pl.askDue (asked t) th (a 3), QJ M A w0 a b mp rb th now told asked C F (a 3) told (askN asked t th (a 3)) v L, fun z hz => ⟨hz.drew, hz.arr⟩, ?_, fun z hz => ?_⟩
        · rw [et]
          exact (rPullAsk_ok M rb now th v L told asked t (a 3) ht' hc hL s.bnd hyes (s.ask t) y s.r).mono fun e w' ⟨h1, h2, h3⟩ => ⟨h1, J.ref hM h2 h3⟩
        · rw [et]
          exact (pullAsk_ok M b now th mp told asked C F t ht' (a 3) hc (by omega) (by have := s.cnt t; omega) (s.ask t) z hz.p).mono fun e w' ⟨h1, h2, h3⟩ => ⟨h1, by
            have J2 := hz.prog hM h2 h3
            exact ⟨⟨a 3, told, _, C, F, v, L, ⟨J2.p, J2.r, s.rel, by have := s.len; omega, fun t => by have := s.cnt t; omega, askN_bound s.ask h0, h0, J2.kb⟩⟩, J2.arr⟩⟩
  · refine ⟨1, false, QJ M A w0 a b mp rb th now told asked C F now told asked v L, fun z hz => ⟨hz.drew, hz.arr⟩, ?_, fun z hz => ?_⟩
    · exact (rPullAsk_bad rb (a 2) (a 3) hg y).mono fun e w' ⟨h1, h2⟩ => ⟨h1, h2 ▸ J⟩
    · exact (pullAsk_bad b (a 2) (a 3) hg z).mono fun e w' ⟨h1, h2⟩ => ⟨h1, h2 ▸ same z hz⟩
theorem StA.drew {M : Nat} {w0 : World} {th : Int} {b : Nat} {mp : Nat → Nat} {rb i A : Nat} {a : Nat → Int} {y : World} (h : StA M w0 th b mp rb i A a y) : StA M w0 th b mp rb i A a y.drew := by
  obtain ⟨⟨now, told, asked, C, F, v, L, s⟩, ha⟩ := h
  exact ⟨⟨now, told, asked, C, F, v, L, ⟨s.p.drewN 1, ⟨by exact s.r.at_, by exact s.r.row, s.r.low⟩, s.rel, s.len, s.cnt, s.ask, s.clk, Below.drewN s.kb 1⟩⟩, by exact ha⟩
theorem errV_env {M : Nat} {w0 : World} {th : Int} {b : Nat} {mp : Nat → Nat} {rb i A : Nat} {a : Nat → Int} {y : World} (hM : M = w0.heap.size) (hE : Env w0) (h : StA M w0 th b mp rb i A a y) : Env y := by
  have := h.kb
  rw [hM] at this
  exact hE.below this
/-- .. Changed -/
theorem plays_changed (M A : Nat) (w0 : World) (hM : M ≤ w0.heap.size) (th : Int) (b : Nat) (mp : Nat → Nat) (rb i : Nat) (hi : i ≤ 1000) (a : Nat → Int) (y : World) (h : StA M w0 th b mp rb i A a y) :
    ∃ (Q1 : Value → World → Prop) (Q2 : Value → Value → World → Prop),
      (Calls Tryd.prog 41 #[.pointer (some ⟨b, 0, none⟩)] y fun e w' => ∃ v1, e = .returned v1 ∧ Q1 v1 w') ∧
      (∀ v1 z, Q1 v1 z → Calls Tryd.prog 48 #[.pointer (some ⟨rb, 0, none⟩)] z fun e w' => ∃ v2, e = .returned v2 ∧ Q2 v1 v2 w') ∧
      ∀ v1 v2 z, Q2 v1 v2 z → Calls Tryd.prog 47 #[v1, v2] z fun e w' => e = .returned (.bool true) ∧ StA M w0 th b mp rb (i + 1) A a w' := by
  obtain ⟨⟨now, told, asked, C, F, v, L, s⟩, ha⟩ := h
  have J : QJ M A w0 a b mp rb th now told asked C F now told asked v L y := ⟨s.p, s.r, ha, s.kb⟩
  have hL : L.length ≤ 100000 := by have := s.len; omega
  have hbF : ∀ t i x, F t i = some x → 0 ≤ x ∧ x ≤ 3 := s.rel.rel.bound
  obtain ⟨nd, hnd⟩ : ∃ nd : Nat → Int, ∀ t, IsNeed (F t) (nd t) ∧ nd t ≤ 3 := by
    refine ⟨fun t => Classical.choose (need_is (F t) (hbF t)), fun t => ?_⟩
    have := Classical.choose_spec (need_is (F t) (hbF t))
    exact ⟨this.1, this.2.1⟩
  have hne : ∀ (t : Nat) (n : Int), 1 ≤ t → t ≤ 8 → NeedL L t n → n = nd t := fun t n _ _ hn => IsNeed.unique (hbF t) (s.rel.need t n hn) (hnd t).1
  have hyM : M ≤ y.heap.size := Nat.le_trans hM s.kb.size
  have hvl : ∀ g, v.ownBlock = some g → g < y.heap.size := fun g e => (s.r.row.lt g e).2
  have hrl : rb < y.heap.size := lt_of_block s.r.at_
  refine ⟨fun v1 z => WRow z y.heap.size v1 (chgL nd told 9) ∧ QJ M A w0 a b mp rb th now (toldN nd told 9) asked C F now told asked v L z,
    fun v1 v2 z => ∃ M2, WRow z y.heap.size v1 (chgL nd told 9) ∧ WRow z M2 v2 (chgL nd told 9) ∧ QJ M A w0 a b mp rb th now (toldN nd told 9) asked C F now (toldN nd told 9) asked v L z, ?_, fun v1 z hz => ?_, fun v1 v2 z hz => ?_⟩
  · exact (pullChanged_any M b now th mp told asked C F hbF nd (fun t _ _ => (hnd t).1) (fun t => (hnd t).2) y hyM s.p).mono fun e w' ⟨v1, h1, h2, h3, h4⟩ => ⟨v1, h1, h2, J.prog hM h3 h4⟩
  · obtain ⟨h5, hq⟩ := hz
    exact (rPullChanged_any M rb now th v L told asked hL s.bnd nd hne (fun t => ⟨(hnd t).1.1, (hnd t).2⟩) z hq.r).mono fun e w' ⟨v2, h1, h2, h3, h4⟩ => ⟨v2, h1, z.heap.size, wantRow_keep h5 (fun g _ hg hl => h4.block g hl (fun e => by
      rcases e with e | e
      · omega
      · have := hvl g e; omega)), h2, hq.ref hM h3 h4⟩
  · obtain ⟨M2, h5, h6, hq⟩ := hz
    refine (sameWants_eq v1 v2 _ _ (chgL nd told 9) (by have := chgL_len nd told 9; omega) z h5 h6).mono fun e w' ⟨h1, n, h2⟩ => ⟨h1, ?_⟩
    subst h2
    exact ⟨⟨now, _, asked, C, F, v, L, ⟨hq.p.drewN n, ⟨by exact hq.r.at_, by exact hq.r.row, hq.r.low⟩, s.rel, by have := s.len; omega, fun t => by have := s.cnt t; omega, s.ask, s.clk, Below.drewN hq.kb n⟩⟩, by exact hq.arr⟩
/-- who wants what -/
theorem plays_who (M A : Nat) (w0 : World) (hM : M ≤ w0.heap.size) (th : Int) (b : Nat) (mp : Nat → Nat) (rb i : Nat) (hi : i ≤ 1000) (a : Nat → Int) (y : World) (h : StA M w0 th b mp rb i A a y) :
    ∃ (Q0 : World → Prop) (Q1 : Value → World → Prop) (Q2 : Value → Value → World → Prop), Q0 y ∧ (∀ z, Q0 z → Q0 z.drew ∧ Arr4 z A a) ∧ (∀ v1 z, Q1 v1 z → Q1 v1 z.drew ∧ Arr4 z A a) ∧ (∀ v1 v2 z, Q2 v1 v2 z → Arr4 z A a) ∧
      (∀ z, Q0 z → Calls Tryd.prog 40 #[.pointer (some ⟨b, 0, none⟩), .int .i64 (a 2)] z fun e w' => ∃ v1, e = .returned v1 ∧ Q1 v1 w') ∧
      (∀ v1 z, Q1 v1 z → Calls Tryd.prog 50 #[.pointer (some ⟨rb, 0, none⟩), .int .i64 (a 2)] z fun e w' => ∃ v2, e = .returned v2 ∧ Q2 v1 v2 w') ∧
      ∀ v1 v2 z, Q2 v1 v2 z → Calls Tryd.prog 33 #[v1, v2] z fun e w' => e = .returned (.bool true) ∧ StA M w0 th b mp rb i A a w' := by
  obtain ⟨⟨now, told, asked, C, F, v, L, s⟩, ha⟩ := h
  have J : QJ M A w0 a b mp rb th now told asked C F now told asked v L y := ⟨s.p, s.r, ha, s.kb⟩
  have hL : L.length ≤ 100000 := by have := s.len; omega
  have fin : ∀ (v1 v2 : Value) (S : List Int) (z : World), Sl encI z v1 S → Sl encI z v2 S → QJ M A w0 a b mp rb th now told asked C F now told asked v L z → Calls Tryd.prog 33 #[v1, v2] z fun e w' => e = .returned (.bool true) ∧ StA M w0 th b mp rb i A a w' := fun v1 v2 S z g1 g2 hq => by
    refine (sameInts_eq v1 v2 S z g1 g2).mono fun e w' ⟨h1, n, h2⟩ => ⟨h1, ?_⟩
    subst h2
    exact ⟨⟨now, told, asked, C, F, v, L, ⟨hq.p.drewN n, ⟨by exact hq.r.at_, by exact hq.r.row, hq.r.low⟩, s.rel, s.len, s.cnt, s.ask, s.clk, Below.drewN hq.kb n⟩⟩, by exact hq.arr⟩
  by_cases ht : 1 ≤ a 2 ∧ a 2 ≤ 8
  · obtain ⟨t, et⟩ : ∃ t : Nat, a 2 = t := ⟨(a 2).toNat, by omega⟩
    refine ⟨QJ M A w0 a b mp rb th now told asked C F now told asked v L, fun v1 z => (∃ (S : List Int) (M1 : Nat), Rises S ∧ (∀ i, i ∈ S ↔ (F t i).isSome = true) ∧ z.ownsRow M1 3 1 v1 S.length (S.map encI)) ∧ QJ M A w0 a b mp rb th now told asked C F now told asked v L z,
      fun v1 v2 z => (∃ (S : List Int), Sl encI z v1 S ∧ Sl encI z v2 S) ∧ QJ M A w0 a b mp rb th now told asked C F now told asked v L z, J, fun z hz => ⟨hz.drew, hz.arr⟩, fun v1 z ⟨⟨S, M1, h1, h2, h3⟩, hz⟩ => ⟨⟨⟨S, M1, h1, h2, h3⟩, hz.drew⟩, hz.arr⟩, fun v1 v2 z ⟨_, hz⟩ => hz.arr, fun z hz => ?_, fun v1 z ⟨⟨S, M1, h1, h2, h3⟩, hz⟩ => ?_, fun v1 v2 z ⟨⟨S, h1, h2⟩, hz⟩ => fin v1 v2 S z h1 h2 hz⟩
    · rw [et]
      exact (pullWho_any M b now th mp told asked C F t (by omega) (by have := s.cnt t; omega) z hz.p).mono fun e w' ⟨v1, S, h1, h2, h3, h4, h5, h6⟩ => ⟨v1, h1, ⟨S, _, h2, h3, h5⟩, hz.below hM h6⟩
    · rw [et]
      refine (rPullWho_any M rb now th v L told asked (t : Int) hL z hz.r).mono fun e w' ⟨v2, S2, g1, g2, g3, g4, g5⟩ => ⟨v2, g1, ⟨S, ?_, ?_⟩, hz.below hM g5⟩
      · exact intRow_sl (intRow_keep h3 (fun g o hg _ => g5.block g (lt_of_block hg)))
      · have : S = S2 := rises_eq h1 g2 (fun i => by rw [h2 i, g3 i, s.rel.who t i])
        rw [this]
        exact intRow_sl g4
  · refine ⟨QJ M A w0 a b mp rb th now told asked C F now told asked v L, fun v1 z => v1 = .slice none 0 0 ∧ QJ M A w0 a b mp rb th now told asked C F now told asked v L z,
      fun v1 v2 z => (Sl encI z v1 [] ∧ Sl encI z v2 []) ∧ QJ M A w0 a b mp rb th now told asked C F now told asked v L z, J, fun z hz => ⟨hz.drew, hz.arr⟩, fun v1 z ⟨h1, hz⟩ => ⟨⟨h1, hz.drew⟩, hz.arr⟩, fun v1 v2 z ⟨_, hz⟩ => hz.arr, fun z hz => ?_, fun v1 z ⟨h1, hz⟩ => ?_, fun v1 v2 z ⟨⟨h1, h2⟩, hz⟩ => fin v1 v2 [] z h1 h2 hz⟩
    · exact (pullWho_bad b (a 2) ht z).mono fun e w' ⟨h1, h2⟩ => ⟨_, h1, rfl, h2 ▸ hz⟩
    · refine (rPullWho_any M rb now th v L told asked (a 2) hL z hz.r).mono fun e w' ⟨v2, S2, g1, g2, g3, g4, g5⟩ => ⟨v2, g1, ⟨?_, ?_⟩, hz.below hM g5⟩
      · subst h1; exact .inl ⟨rfl, none, 0, rfl, by simp, fun _ => rfl⟩
      · have : S2 = [] := List.eq_nil_iff_forall_not_mem.2 (fun x hx => by
          have := (g3 x).1 hx
          rw [s.rel.who_bad (a 2) ht] at this
          cases this)
        subst this
        exact intRow_sl g4
/-- what is needed -/
theorem plays_need (M A : Nat) (w0 : World) (hM : M ≤ w0.heap.size) (th : Int) (b : Nat) (mp : Nat → Nat) (rb i : Nat) (hi : i ≤ 1000) (a : Nat → Int) (y : World) (h : StA M w0 th b mp rb i A a y) :
    ∃ (n : Int) (Q0 Q1 : World → Prop), Q0 y ∧ (∀ z, Q0 z → Q0 z.drew ∧ Arr4 z A a) ∧ (∀ z, Q1 z → Q1 z.drew ∧ Arr4 z A a) ∧
      (∀ z, Q0 z → Calls Tryd.prog 44 #[.pointer (some ⟨b, 0, none⟩), .int .i64 (a 2)] z fun e w' => e = .returned (.int .i64 n) ∧ Q1 w') ∧
      ∀ z, Q1 z → Calls Tryd.prog 51 #[.pointer (some ⟨rb, 0, none⟩), .int .i64 (a 2)] z fun e w' => e = .returned (.int .i64 n) ∧ StA M w0 th b mp rb i A a w' := by
  obtain ⟨⟨now, told, asked, C, F, v, L, s⟩, ha⟩ := h
  have J : QJ M A w0 a b mp rb th now told asked C F now told asked v L y := ⟨s.p, s.r, ha, s.kb⟩
  have hL : L.length ≤ 1000000 := by have := s.len; omega
  have same : ∀ z, QJ M A w0 a b mp rb th now told asked C F now told asked v L z → StA M w0 th b mp rb i A a z := fun z hz =>
    ⟨⟨now, told, asked, C, F, v, L, ⟨hz.p, hz.r, s.rel, s.len, s.cnt, s.ask, s.clk, hz.kb⟩⟩, hz.arr⟩
  by_cases ht : 1 ≤ a 2 ∧ a 2 ≤ 8
  · obtain ⟨t, et⟩ : ∃ t : Nat, a 2 = t := ⟨(a 2).toNat, by omega⟩
    obtain ⟨n, hn, _⟩ := need_is (F t) (s.rel.rel.bound t)
    refine ⟨n, QJ M A w0 a b mp rb th now told asked C F now told asked v L, QJ M A w0 a b mp rb th now told asked C F now told asked v L, J, fun z hz => ⟨hz.drew, hz.arr⟩, fun z hz => ⟨hz.drew, hz.arr⟩, fun z hz => ?_, fun z hz => ?_⟩
    · rw [et]
      exact (pullNeed_is M b now th mp told asked C F t (by omega) (s.rel.rel.bound t) n hn z hz.p).mono fun e w' ⟨h1, h2⟩ => ⟨h1, hz.below hM h2⟩
    · rw [et]
      exact (rPullNeed_any M rb now th v L told asked (t : Int) hL s.bnd z hz.r).mono fun e w' ⟨m, h1, h2, h3⟩ => ⟨by rw [h1, IsNeed.unique (s.rel.rel.bound t) (s.rel.need t m h2) hn], h3 ▸ same z hz⟩
  · refine ⟨-1, QJ M A w0 a b mp rb th now told asked C F now told asked v L, QJ M A w0 a b mp rb th now told asked C F now told asked v L, J, fun z hz => ⟨hz.drew, hz.arr⟩, fun z hz => ⟨hz.drew, hz.arr⟩, fun z hz => ?_, fun z hz => ?_⟩
    · exact (pullNeed_bad b (a 2) ht z).mono fun e w' ⟨h1, h2⟩ => ⟨h1, h2 ▸ hz⟩
    · exact (rPullNeed_any M rb now th v L told asked (a 2) hL s.bnd z hz.r).mono fun e w' ⟨m, h1, h2, h3⟩ => ⟨by rw [h1, s.rel.need_bad (a 2) ht m h2], h3 ▸ same z hz⟩
/-- a store into the step's array -/
theorem StA.put {M : Nat} {w0 : World} {th : Int} {b : Nat} {mp : Nat → Nat} {rb i A : Nat} {a : Nat → Int} {y : World} (h : StA M w0 th b mp rb i A a y) (hA : M ≤ A) (k : Nat) (hk : k < 4) (x : Int) : StA M w0 th b mp rb i A (fun j => if j = k then x else a j) (y.setCell ⟨A, k, none⟩ (.int .i64 x)) := by
  obtain ⟨⟨now, told, asked, C, F, v, L, s⟩, ha⟩ := h
  have kk : Keeps (fun j => j = A) y (y.setCell ⟨A, k, none⟩ (.int .i64 x)) := KeepsBut.set (KeepsBut.refl A y) k (.int .i64 x)
  have hb : b ≠ A := fun e => by
    have p := s.p.at_
    unfold PullAt Arr4 at *
    rw [e, ha] at p; simp at p
  refine ⟨⟨now, told, asked, C, F, v, L, ⟨⟨obj_other s.p.at_ (Ne.symm hb) _, fun j hj => (s.p.map j hj).block (kk.block _ (s.p.map j hj).lt (fun e => (s.p.map j hj).ne_cells _ _ _ (by rw [e]; exact ha))), s.p.ne, s.p.inj, s.p.low⟩, s.r.keep kk (fun j hj => .inr ⟨fun c e => ?_, fun c e => ?_⟩), s.rel, s.len, s.cnt, s.ask, s.clk, Below.setCell s.kb hA _⟩⟩, ha.set k hk x⟩
  · subst hj; unfold Arr4 at ha; rw [ha] at e; simp at e
  · subst hj; unfold Arr4 at ha; rw [ha] at e; simp at e
theorem StA.start {M : Nat} {w0 : World} {th : Int} {b : Nat} {mp : Nat → Nat} {rb i : Nat} {y : World} (h : StE M w0 th b mp rb i y) (hM : M ≤ w0.heap.size) : StA M w0 th b mp rb i y.heap.size (fun _ => 0) (y.alloc (.cells #[.int .i64 0, .int .i64 0, .int .i64 0, .int .i64 0] 99)) := by
  obtain ⟨now, told, asked, C, F, v, L, s⟩ := h
  have k : Below y.heap.size y (y.alloc (.cells #[.int .i64 0, .int .i64 0, .int .i64 0, .int .i64 0] 99)) := (Below.refl _ _).alloc (Nat.le_refl _) _
  exact ⟨⟨now, told, asked, C, F, v, L, ⟨s.p.below k, s.r.below k, s.rel, s.len, s.cnt, s.ask, s.clk, s.kb.trans (k.mono (Nat.le_trans hM s.kb.size))⟩⟩, obj_new _ _⟩
end Go.Proofs.YthgdkakkbaoccaaDoor
