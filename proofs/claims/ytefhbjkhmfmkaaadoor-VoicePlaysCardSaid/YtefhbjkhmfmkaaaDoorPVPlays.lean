import Derived.Test.YtefhbjkhmfmkaaaDoorVoiceG
import Derived.Test.YtefhbjkhmfmkaaaDoorRefVoiceC
import Derived.Test.YtefhbjkhmfmkaaaDoorRefVoiceTop
import Derived.Test.YtefhbjkhmfmkaaaDoorErrV
import Derived.Test.YtefhbjkhmfmkaaaDoorRSorted
import Derived.Test.YtefhbjkhmfmkaaaDoorSlRows
import Derived.Test.YtefhbjkhmfmkaaaDoorSameVc
import Derived.Test.YtefhbjkhmfmkaaaDoorPVoiceC
/-! The rounds of the law VoicePlays, both objects side by side. -/
namespace Go.Proofs.YtefhbjkhmfmkaaaDoor
open Go.RowKit
set_option linter.unusedVariables false
set_option linter.unusedSimpArgs false
theorem Pl.lvAt_in {N : List Vc} (hr : N.Pairwise fun x y => x.who < y.who) (who lv : Int) : (⟨who, lv⟩ : Vc) ∈ N ↔ Pl.lvAt N who = some lv := by
  constructor
  · intro h
    cases e : Pl.lvAt N who with
    | none =>
      unfold Pl.lvAt at e
      rw [Option.map_eq_none_iff, List.find?_eq_none] at e
      have := e _ h
      simp at this
    | some s =>
      obtain ⟨v, hv, rfl, rfl⟩ := Pl.lvAt_some e
      obtain ⟨i, hi, h1⟩ := List.mem_iff_getElem.1 h
      obtain ⟨j, hj, h2⟩ := List.mem_iff_getElem.1 hv
      have hij : i = j := by
        rcases Nat.lt_trichotomy i j with q | q | q
        · have := (List.pairwise_iff_getElem.1 hr) i j hi hj q
          rw [h1, h2] at this; simp at this
        · exact q
        · have := (List.pairwise_iff_getElem.1 hr) j i hj hi q
          rw [h1, h2] at this; simp at this
      subst hij
      rw [h1] at h2
      rw [← h2]
  · intro h
    obtain ⟨v, hv, rfl, rfl⟩ := Pl.lvAt_some h
    exact hv
theorem Pl.lvAt_of {N : List Vc} {f : Pl.Sco} (hr : N.Pairwise fun x y => x.who < y.who) (hm : ∀ who lv, (⟨who, lv⟩ : Vc) ∈ N ↔ f who = some lv) : Pl.lvAt N = f := by
  funext i
  apply Option.ext
  intro s
  rw [← Pl.lvAt_in hr i s, hm]
theorem Pl.cnt_of {N : List Vc} {f : Pl.Sco} (hr : N.Pairwise fun x y => x.who < y.who) (hm : ∀ who lv, (⟨who, lv⟩ : Vc) ∈ N ↔ f who = some lv) : Pl.Cnt f N.length := by
  refine ⟨N.map (·.who), ?_, by simp, fun i => ?_⟩
  · rw [List.nodup_iff_pairwise_ne, List.pairwise_map]
    exact hr.imp fun {a b} h e => by omega
  · rw [List.mem_map]
    constructor
    · intro h
      cases e : f i with
      | none => rw [e] at h; cases h
      | some s => exact ⟨_, (hm i s).2 e, rfl⟩
    · rintro ⟨v, hv, rfl⟩
      rw [(hm v.who v.lvl).1 hv]; rfl
/-- both objects, of which the reference's speaker may be another one -/
structure VQ (M : Nat) (w0 : World) (ob rb : Nat) (many sp sp2 : Int) (f : Pl.Sco) (bm c : Nat) (vK : Value) (K : List Vc) (y : World) : Prop where
  p : Voi y ob many sp bm c f
  r : RVo y rb many sp2 vK
  row : vcK.Own y M vK K
  kb : Below M w0 y
  low : M ≤ ob ∧ M ≤ rb
theorem VQ.drewN {M : Nat} {w0 : World} {ob rb : Nat} {many sp sp2 : Int} {f : Pl.Sco} {bm c : Nat} {vK : Value} {K : List Vc} {y : World} (h : VQ M w0 ob rb many sp sp2 f bm c vK K y) (n : Nat) : VQ M w0 ob rb many sp sp2 f bm c vK K (y.drewN n) :=
  ⟨h.p.below (Below.drewN (Below.refl _ _) n), Below.heapAt (Below.drewN (Below.refl _ _) n) h.r (lt_of_block h.r), h.row.below (Below.drewN (Below.refl _ _) n), Below.drewN h.kb n, h.low⟩
theorem VQ.below {M : Nat} {w0 : World} (hM : M ≤ w0.heap.size) {ob rb : Nat} {many sp sp2 : Int} {f : Pl.Sco} {bm c : Nat} {vK : Value} {K : List Vc} {y z : World} (h : VQ M w0 ob rb many sp sp2 f bm c vK K y) (k : Below y.heap.size y z) : VQ M w0 ob rb many sp sp2 f bm c vK K z :=
  ⟨h.p.below k, Below.heapAt k h.r (lt_of_block h.r), h.row.below k, h.kb.trans (k.mono (Nat.le_trans hM h.kb.size)), h.low⟩
theorem VQ.row_ne {y : World} {M : Nat} {vK : Value} {K : List Vc} (h : vcK.Own y M vK K) {b : Nat} {o : Obj} (hb : y.heap[b]? = some o) (ho : ∀ cs q, o ≠ .cells cs 38 q) : ∀ g, vK.ownBlock = some g → g ≠ b := fun g e hg => by
  subst hg
  rcases h.2 with ⟨rfl, _⟩ | ⟨g', cap, cur, rfl, _, hg, _⟩
  · cases e
  · simp [Value.ownBlock] at e
    subst e
    rw [hg] at hb
    cases hb
    exact ho _ _ rfl
theorem VQ.ne {M : Nat} {w0 : World} {ob rb : Nat} {many sp sp2 : Int} {f : Pl.Sco} {bm c : Nat} {vK : Value} {K : List Vc} {y : World} (h : VQ M w0 ob rb many sp sp2 f bm c vK K y) : rb ≠ ob ∧ bm ≠ rb := by
  have h1 := h.r
  have h2 := h.p.at_
  unfold RVo at h1
  unfold VoAt at h2
  refine ⟨fun e => ?_, fun e => ?_⟩
  · subst e
    rw [h1] at h2
    simp at h2
  · subst e
    obtain ⟨D, ⟨es, clock, h3, _⟩, _⟩ := h.p.map
    rw [h1] at h3
    cases h3
theorem VQ.num {M : Nat} {w0 : World} {ob rb : Nat} {many sp sp2 : Int} {bm c : Nat} {vK : Value} {K : List Vc} {y : World} (h : VQ M w0 ob rb many sp sp2 (Pl.lvAt K) bm c vK K y) (hr : K.Pairwise fun x y => x.who < y.who) : ∀ x ∈ K, x.Num := fun x hx => by
  have := h.p.ok x.who x.lvl ((Pl.lvAt_in hr x.who x.lvl).1 hx)
  exact ⟨⟨by omega, by omega⟩, by omega, by omega⟩
/-- between the two: what the program has heard -/
def VH (M : Nat) (w0 : World) (ob rb : Nat) (many sp : Int) (bm c : Nat) (vK : Value) (K L : List Vc) (k : Int) (z : World) : Prop :=
  (k ≠ 0 ∧ (Pl.LevF L k ∨ (Pl.LevF L 0 ∧ k = 4 ∧ ∃ c2, 200 < c2 ∧ Pl.Cnt (Pl.sc2 (Pl.lvAt K) (Pl.lvAt L)) c2)) ∧ VQ M w0 ob rb many sp sp (Pl.lvAt K) bm c vK K z) ∨
  (k = 0 ∧ Pl.LevF L 0 ∧ ∃ bm' c' R, Pl.SortedOf (Pl.sc2 (Pl.lvAt K) (Pl.lvAt L)) R ∧ VQ M w0 ob rb many (Pl.nextSp (Pl.sc2 (Pl.lvAt K) (Pl.lvAt L)) R sp) sp (Pl.sc2 (Pl.lvAt K) (Pl.lvAt L)) bm' c' vK K z)
/-- between the rounds -/
def VSt (M : Nat) (w0 : World) (ob rb : Nat) (many : Int) (y : World) : Prop := ∃ sp bm c vK K, VQ M w0 ob rb many sp sp (Pl.lvAt K) bm c vK K y ∧ K.length ≤ 200 ∧ K.Pairwise fun x y => x.who < y.who
theorem VH.drewN {M : Nat} {w0 : World} {ob rb : Nat} {many sp : Int} {bm c : Nat} {vK : Value} {K L : List Vc} {k : Int} {z : World} (h : VH M w0 ob rb many sp bm c vK K L k z) (n : Nat) : VH M w0 ob rb many sp bm c vK K L k (z.drewN n) := by
  rcases h with ⟨h1, h2, h3⟩ | ⟨h1, h2, bm', c', R, h3, h4⟩
  · exact .inl ⟨h1, h2, h3.drewN n⟩
  · exact .inr ⟨h1, h2, bm', c', R, h3, h4.drewN n⟩
theorem VH.kb {M : Nat} {w0 : World} {ob rb : Nat} {many sp : Int} {bm c : Nat} {vK : Value} {K L : List Vc} {k : Int} {z : World} (h : VH M w0 ob rb many sp bm c vK K L k z) : Below M w0 z := by
  rcases h with ⟨h1, h2, h3⟩ | ⟨h1, h2, bm', c', R, h3, h4⟩
  · exact h3.kb
  · exact h4.kb
theorem VSt.kb {M : Nat} {w0 : World} {ob rb : Nat} {many : Int} {z : World} (h : VSt M w0 ob rb many z) : Below M w0 z := by
  obtain ⟨sp, bm, c, vK, K, h, _⟩ := h
  exact h.kb
theorem VSt.drewN {M : Nat} {w0 : World} {ob rb : Nat} {many : Int} {z : World} (h : VSt M w0 ob rb many z) (n : Nat) : VSt M w0 ob rb many (z.drewN n) := by
  obtain ⟨sp, bm, c, vK, K, h, h2⟩ := h
  exact ⟨sp, bm, c, vK, K, h.drewN n, h2⟩
theorem VSt.below {M : Nat} {w0 : World} (hM : M ≤ w0.heap.size) {ob rb : Nat} {many : Int} {y z : World} (h : VSt M w0 ob rb many y) (k : Below y.heap.size y z) : VSt M w0 ob rb many z := by
  obtain ⟨sp, bm, c, vK, K, h, h2⟩ := h
  exact ⟨sp, bm, c, vK, K, h.below hM k, h2⟩
theorem vplays_hear (w0 : World) (ob rb : Nat) (many sp : Int) (bm c : Nat) (vK v : Value) (K L : List Vc) (hL : IsVs w0 v L) (y : World) (h : VQ w0.heap.size w0 ob rb many sp sp (Pl.lvAt K) bm c vK K y) :
    Calls Tryd.prog 6 #[.pointer (some ⟨ob, 0, none⟩), v] y fun e w' => ∃ k : Int, e = .returned (errV k) ∧ VH w0.heap.size w0 ob rb many sp bm c vK K L k w' := by
  have hne := h.ne
  refine (voiceHear_1 ob bm c many sp (Pl.lvAt K) v L y h.p (hL.below h.kb)).mono fun e w' ⟨k, h1, h2, h3⟩ => ⟨k, h1, ?_⟩
  have hrow : vcK.Own w' w0.heap.size vK K := h.row.keep (fun g e _ hl => h2.block g hl (fun hg => VQ.row_ne h.row h.p.at_ (fun cs q e => by cases e) g e hg))
  have hkb : Below w0.heap.size w0 w' := h.kb.trans (h2.below h.kb.size h.low.1)
  have hr : RVo w' rb many sp vK := KeepsBut.heap h2 h.r hne.1
  rcases h3 with ⟨q1, q2, q3⟩ | ⟨q1, q2, bm', c2, R, q3, q4⟩
  · exact .inl ⟨q1, q2, ⟨h.p.below q3, hr, hrow, hkb, h.low⟩⟩
  · exact .inr ⟨q2, q1, bm', c2, R, q3, ⟨q4, hr, hrow, hkb, h.low⟩⟩
theorem rplays_hear (w0 : World) (ob rb : Nat) (many sp : Int) (bm c : Nat) (vK v : Value) (K L : List Vc) (hK1 : K.length ≤ 200) (hK2 : K.Pairwise fun x y => x.who < y.who) (hsp : -1 ≤ sp ∧ sp ≤ 200) (hok : Pl.Sok (Pl.lvAt K)) (hL : IsVs w0 v L) (k : Int) (y : World) (h : VH w0.heap.size w0 ob rb many sp bm c vK K L k y) :
    Calls Tryd.prog 7 #[.pointer (some ⟨rb, 0, none⟩), v] y fun e w' => e = .returned (.int .i64 k) ∧ VSt w0.heap.size w0 ob rb many w' := by
  have hnum : ∀ x ∈ K, x.Num := fun x hx => by
    have := hok x.who x.lvl ((Pl.lvAt_in hK2 x.who x.lvl).1 hx)
    exact ⟨⟨by omega, by omega⟩, by omega, by omega⟩
  have hr : RVo y rb many sp vK ∧ vcK.Own y w0.heap.size vK K := by
    rcases h with ⟨_, _, h⟩ | ⟨_, _, bm', c', R, _, h⟩
    · exact ⟨h.r, h.row⟩
    · exact ⟨h.r, h.row⟩
  refine (rVoiceHear_1 rb many sp vK v K L y hr.1 (vcK_vs hr.2 hnum) hK1 hK2 hok (hL.below h.kb) hsp).mono fun e w' ⟨fe, h1, h2, h3⟩ => ?_
  have keep : ∀ {sp sp1 : Int} {f : Pl.Sco} {bm c : Nat}, VQ w0.heap.size w0 ob rb many sp sp1 f bm c vK K y → Voi w' ob many sp bm c f ∧ Below w0.heap.size w0 w' := fun {sp sp1 f bm c} q => by
    have hne := q.ne
    refine ⟨⟨KeepsBut.heap h2 q.p.at_ hne.1.symm, MapAt.block q.p.map (h2.block bm q.p.map.lt hne.2), q.p.ok, q.p.cnt, q.p.ne, q.p.sp_⟩, q.kb.trans (h2.below q.kb.size q.low.2)⟩
  rcases h with ⟨k1, k2, q⟩ | ⟨k1, k2, bm', c', R, k3, q⟩
  · rcases h3 with ⟨f1, f2, f3⟩ | ⟨f1, f2, v', N, n1, n2, n3, n4, n5⟩
    · have : fe = k := by
        rcases k2 with k2 | ⟨k2, k3, -⟩
        · rcases f2 with f2 | ⟨f2, f4, -⟩
          · exact f2.eq k2
          · exact absurd (k2.eq f2) k1
        · rcases f2 with f2 | ⟨f2, f4, -⟩
          · exact absurd (f2.eq k2) f1
          · rw [f4, k3]
      subst this
      exact ⟨h1, sp, bm, c, vK, K, q.below (Nat.le_refl _) f3, hK1, hK2⟩
    · exfalso
      rcases k2 with k2 | ⟨k2, k3, c2, k4, k5⟩
      · exact k1 (k2.eq f1)
      · have := k5.eq (Pl.cnt_of n2 n3)
        omega
  · rcases h3 with ⟨f1, f2, f3⟩ | ⟨f1, f2, v', N, n1, n2, n3, n4, n5⟩
    · exfalso
      rcases f2 with f2 | ⟨f2, f4, N, f5, f6, f7⟩
      · exact f1 (f2.eq k2)
      · have := (Pl.cnt_of f6 f7).eq q.p.map.cnt
        have := q.p.cnt
        omega
    · have hf := Pl.lvAt_of n2 n3
      obtain ⟨h4, h5⟩ := keep q
      refine ⟨by rw [h1, f2, k1], _, bm', c', v', N, ⟨?_, n5 R k3, World.ownsRow.mono n4 q.kb.size, h5, q.low⟩, n1, n2⟩
      rw [hf]
      exact h4
/-- a round of both, one behind the other -/
theorem vplays_both (w0 : World) (ob rb : Nat) (many : Int) (v : Value) (L : List Vc) (hL : IsVs w0 v L) (y : World) (h : VSt w0.heap.size w0 ob rb many y) :
    ∃ (Q0 : World → Prop) (Q1 : Int → World → Prop), Q0 y ∧ (∀ z, Q0 z → Q0 z.drew ∧ Below w0.heap.size w0 z) ∧ (∀ k z, Q1 k z → Q1 k z.drew ∧ Below w0.heap.size w0 z) ∧
      (∀ z, Q0 z → Calls Tryd.prog 6 #[.pointer (some ⟨ob, 0, none⟩), v] z fun e w' => ∃ k : Int, e = .returned (errV k) ∧ Q1 k w') ∧
      ∀ k z, Q1 k z → Calls Tryd.prog 7 #[.pointer (some ⟨rb, 0, none⟩), v] z fun e w' => e = .returned (.int .i64 k) ∧ VSt w0.heap.size w0 ob rb many w' := by
  obtain ⟨sp, bm, c, vK, K, hq, hK1, hK2⟩ := h
  refine ⟨VQ w0.heap.size w0 ob rb many sp sp (Pl.lvAt K) bm c vK K, VH w0.heap.size w0 ob rb many sp bm c vK K L, hq, fun z hz => ⟨hz.drewN 1, hz.kb⟩, fun k z hz => ⟨hz.drewN 1, hz.kb⟩, fun z hz => vplays_hear w0 ob rb many sp bm c vK v K L hL z hz, fun k z hz => rplays_hear w0 ob rb many sp bm c vK v K L hK1 hK2 hq.p.sp_ hq.p.ok hL k z hz⟩
/-- the end of the round: who is at the top, and among the quiet -/
theorem vplays_top (w0 : World) (ob rb : Nat) (many : Nat) (hm1 : 1 ≤ many) (hm2 : many ≤ 20) (y : World) (h : VSt w0.heap.size w0 ob rb many y) :
    ∃ (Q : World → Prop) (sp : Int) (f : Pl.Sco), Q y ∧ (∀ z, Q z → VSt w0.heap.size w0 ob rb many z ∧ z.cell? ⟨rb, 1, none⟩ = some (.int .i64 sp)) ∧ (∀ z z', Q z → Below z.heap.size z z' → Q z') ∧
      (∀ z, Q z → Calls Tryd.prog 8 #[.pointer (some ⟨rb, 0, none⟩)] z fun e w' => ∃ v' O, e = .returned v' ∧ Pl.SortedOf f O ∧ O.length ≤ 200 ∧ vcK.Own w' z.heap.size v' O ∧ (∀ x ∈ O, x.Num) ∧ Below z.heap.size z w') ∧
      (∀ O, Pl.SortedOf f O → (∀ z, Q z → Calls Tryd.prog 10 #[.pointer (some ⟨ob, 0, none⟩)] z fun e w' => ∃ v', e = .returned v' ∧ IsVs w' v' (O.take many) ∧ Below z.heap.size z w') ∧
      (∀ z, Q z → Calls Tryd.prog 12 #[.pointer (some ⟨ob, 0, none⟩)] z fun e w' => ∃ v', e = .returned v' ∧ IRow w' z.heap.size v' (Pl.quiet O many) ∧ Below z.heap.size z w')) ∧
      (∀ z, Q z → Calls Tryd.prog 14 #[.pointer (some ⟨ob, 0, none⟩)] z fun e w' => e = .returned (.int .i64 sp) ∧ z = w') := by
  obtain ⟨sp, bm, c, vK, K, hq, hK1, hK2⟩ := h
  refine ⟨VQ w0.heap.size w0 ob rb many sp sp (Pl.lvAt K) bm c vK K, sp, Pl.lvAt K, hq, fun z hz => ⟨⟨sp, bm, c, vK, K, hz, hK1, hK2⟩, obj_cell hz.r rfl⟩, fun z z' hz k => hz.below (Nat.le_refl _) k, fun z hz => ?_, fun O hO => ⟨fun z hz => ?_, fun z hz => ?_⟩, fun z hz => ?_⟩
  · refine (rVoiceTop_any rb many sp vK K z hz.r (vcK_vs hz.row (hz.num hK2)) hK1 hK2).mono fun e w' ⟨v', O, h1, h2, h3, h4⟩ => ⟨v', O, h1, h2.sorted (fun who lv => Pl.lvAt_in hK2 who lv), by have := h2.len; omega, h3, fun x hx => ?_, h4⟩
    have := (h2.mem x).1 hx
    rw [List.take_length] at this
    exact hz.num hK2 x this
  · refine (voiceTop_any ob bm c many sp (Pl.lvAt K) z hz.p hm1 hm2).mono fun e w' ⟨v', R, h1, h2, h3, h4⟩ => ⟨v', h1, ?_, h4⟩
    obtain rfl := h2.eq hO
    exact h3
  · refine (voiceQuiet_any ob bm c many sp (Pl.lvAt K) z hz.p hm1 hm2).mono fun e w' ⟨v', R, h1, h2, h3, h4⟩ => ⟨v', h1, ?_, h4⟩
    obtain rfl := h2.eq hO
    exact h3
  · exact voiceSpeaker_any ob bm many sp z hz.p.at_
theorem Pl.quiet_rises {f : Pl.Sco} {R : List Vc} {many : Nat} (h : Pl.SortedOf f R) : Rises (Pl.quiet R many) ∧ ∀ i, i ∈ Pl.quiet R many ↔ i ∈ (R.drop many).map (·.who) := by
  refine ⟨?_, fun i => by unfold Pl.quiet; rw [List.mem_mergeSort]⟩
  unfold Pl.quiet
  refine Pl.sorted_lt ?_
  rw [List.map_drop]
  exact h.whos.sublist (List.drop_sublist _ _)
end Go.Proofs.YtefhbjkhmfmkaaaDoor
