import Derived.Test.YtefhbjkhmfmkaaaDoorVoiceSort
/-! voice.sorted. -/
namespace Go.Proofs.YtefhbjkhmfmkaaaDoor
open Go.RowKit
open Go.Maps (Keyed)
set_option linter.unusedVariables false
set_option linter.unusedSimpArgs false
theorem vc_more2 {W : World} {M : Nat} {v : Value} {L : List Vc} (h : vcK.Own W M v L) (x : Vc) (hn : L.length ≤ 999999) (hM : M ≤ W.heap.size) :
    ∃ gN capN wN, (Builtin.append_ #[30, 30] 30 #[v, .slice (some ⟨W.heap.size, 0, none⟩) 1 1]).run Tryd.prog (W.alloc (.cells #[.int .i64 x.who, .int .i64 x.lvl] 38)) = .ok (.slice (some ⟨gN, 0, none⟩) (L.length + 1) capN) wN ∧ vcK.Own wN M (.slice (some ⟨gN, 0, none⟩) (L.length + 1) capN) (L ++ [x]) ∧ W.grownBy wN v.ownBlock := by
  have kA : Below W.heap.size W (W.alloc (.cells #[.int .i64 x.who, .int .i64 x.lvl] 38)) := (Below.refl _ _).alloc (Nat.le_refl _) _
  obtain ⟨vN, wN, hr, ho, hgr, hbk⟩ := RecK.run_one vcK_ok (W.alloc (.cells #[.int .i64 x.who, .int .i64 x.lvl] 38)) M v x L (h.below kA) W.heap.size (obj_new _ _) hn (by simp; omega)
  have ho' := ho
  obtain ⟨gN, capN, rfl⟩ := Joins.ownsRow_form ho (by simp)
  have e : (L ++ [x]).length = L.length + 1 := by simp
  rw [e] at hr ho'
  refine ⟨gN, capN, wN, hr, by unfold RecK.Own at ho' ⊢; rw [e]; simpa using ho', ?_⟩
  exact ⟨hgr.os.trans kA.os, hgr.tape.trans kA.tape, hgr.output.trans kA.output, Nat.le_trans kA.size hgr.size, fun j hj hne => (hgr.block j (by simp; omega) hne).trans (kA.block j hj)⟩
/-- the list under way -/
structure Lst (f : Pl.Sco) (left : Int → Bool) (L : List Vc) : Prop where
  off : ∀ x ∈ L, f x.who = some x.lvl ∧ left x.who = false
  too : ∀ i s, f i = some s → left i = false → (⟨i, s⟩ : Vc) ∈ L
  nd : L.Nodup
theorem Lst.start (f : Pl.Sco) : Lst f (fun j => (SF f j).isSome) [] := ⟨by simp, fun i s h hl => by simp [SF, h] at hl, List.nodup_nil⟩
theorem Lst.step {f : Pl.Sco} {left : Int → Bool} {L : List Vc} (h : Lst f left L) {x s : Int} (hx : f x = some s) (hl : left x = true) : Lst f (fun j => left j && !decide (j = x)) (L ++ [⟨x, s⟩]) where
  off := fun y hy => by
    rcases List.mem_append.1 hy with hy | hy
    · have := h.off y hy; exact ⟨this.1, by simp [this.2]⟩
    · have : y = ⟨x, s⟩ := by simpa using hy
      subst this; exact ⟨hx, by simp⟩
  too := fun i t hi hli => by
    by_cases e : i = x
    · subst e; rw [hx] at hi; cases hi; simp
    · have : left i = false := by simpa [e] using hli
      exact List.mem_append.2 (.inl (h.too i t hi this))
  nd := List.nodup_append.2 ⟨h.nd, by simp, fun a ha b hb e => by
    have : b = ⟨x, s⟩ := by simpa using hb
    subst this
    subst e
    have := (h.off _ ha).2
    simp only at this
    rw [hl] at this; cases this⟩
theorem Lst.done {f : Pl.Sco} {left : Int → Bool} {L : List Vc} (h : Lst f left L) (hl : ∀ j, left j = false) : Pl.SortedOf f (Pl.vsort L) := by
  refine ⟨?_, fun i s => ?_⟩
  · have hn : (Pl.vsort L).Nodup := (Pl.vsort_perm L).nodup_iff.2 h.nd
    refine List.Pairwise.imp₂ (fun {x y} (h1 : ¬ Pl.vBef y x) (h2 : x ≠ y) => ?_) (Pl.vsort_pw L) hn
    obtain ⟨n, v⟩ := x
    obtain ⟨n', v'⟩ := y
    unfold Pl.vBef at *
    simp only [ne_eq, Vc.mk.injEq, not_and] at h1 h2 ⊢
    by_cases e1 : n = n'
    · have := h2 e1; omega
    · omega
  · rw [(Pl.vsort_perm L).mem_iff]
    exact ⟨fun hm => (h.off _ hm).1, fun hi => h.too i s hi (hl i)⟩
set_option maxRecDepth 100000 in
set_option maxHeartbeats 2000000 in
theorem sorted_any (b bm c : Nat) (many sp : Int) (f : Pl.Sco) (w : World) (ho : VoAt w b many sp bm) (hm : VM w bm c f) (hc : c ≤ 1000) :
    Calls Tryd.prog 20 #[.pointer (some ⟨b, 0, none⟩)] w fun e w' => ∃ (v' : Value) (R : List Vc), e = .returned v' ∧ Pl.SortedOf f R ∧ R.length ≤ 1000 ∧ vcK.Own w' w.heap.size v' R ∧ Below w.heap.size w w' := by
  have c2 : w.cell? ⟨b, 2, none⟩ = some (.map (some bm)) := obj_cell ho rfl
  have hbl := hm.lt
  clear ho
  go_enter Tryd.func20, Tryd.ntmps20
  go_wp2_with (first
    | (at_range; refine wpList_mrange _ rfl _ 46 rfl 3 3 vlaw Tryd.underlying46 bm c _ rfl hm ?_; intro w0 hrg0 hg0 hs0)
    | go_in)
  go_frame
  clear hm c2
  have K0 := Lib.hid (show Below w.heap.size w w0 from ⟨hg0.os, hg0.tape, hg0.output, hg0.size, fun k hk => hg0.block k hk (by simp)⟩)
  have ST := Lib.hid (Lst.start f)
  have Z0 := Lib.hid (show w.heap.size + 1 ≤ w0.heap.size from by omega)
  go_loopw [3, 4, 5] (fun s3 _ _ wr => ∃ (left : Int → Bool) (cnt : Nat) (L : List Vc), RangesAt Tryd.prog 3 wr bm w.heap.size c (SF f) left cnt ∧ Hid (Lst f left L) ∧ L.length + cnt ≤ c ∧ Hid (vcK.Own wr (w.heap.size + 1) s3 L) ∧ Hid (Below w.heap.size w wr) ∧ Hid (w.heap.size + 1 ≤ wr.heap.size))
    (fun _ _ _ wr => wr.rangeLeft bm w.heap.size)
  case atStart => exact ⟨_, c, [], hrg0, ST, by simp, Lib.hid (RecK.Own.nil _ _), K0, Z0⟩
  case round =>
    clear hrg0 hg0 hs0 ST K0 Z0
    obtain ⟨left, cnt, L, hrg, hst, hcc, OR, KR, ZR⟩ := hrel
    have HLE := Lib.hid hrg.left_eq
    go_wp2_with (first
      | (at_next; refine wpList_mnext _ rfl _ rfl 3 vlaw Tryd.underlying3 bm w.heap.size c _ left cnt rfl hrg ?_ ?_)
      | go_in)
    · intro h0 hl0
      have SO := Lib.hid (hst.out.done hl0)
      have SC := Lib.hid (sortVoices_own (w.heap.size + 1) u3 L wr (by omega) OR.out)
      have HLn := Lib.hid (show (Pl.vsort L).length ≤ 1000 from by rw [Pl.vsort_len]; omega)
      clear hrg hst
      go_wp2_with (go_at_call 23; (with_reducible refine SC.out.mono ?_); rintro e w2 ⟨rfl, hq, hg⟩; have OQ := Lib.hid hq; have GQ := Lib.hid hg; clear hq hg)
      go_ret
      refine ⟨u3, Pl.vsort L, rfl, SO.out, HLn.out, ?_, ?_⟩
      · obtain ⟨q1, q2⟩ := OQ.out
        refine ⟨q1, ?_⟩
        rcases q2 with h | ⟨g, cap, cur, e, a1, a2⟩
        · exact .inl h
        · exact .inr ⟨g, cap, cur, e, by omega, a2⟩
      · exact ⟨GQ.out.os.trans KR.out.os, GQ.out.tape.trans KR.out.tape, GQ.out.output.trans KR.out.output, Nat.le_trans KR.out.size GQ.out.size, fun j hj => (GQ.out.block j (Nat.lt_of_lt_of_le hj KR.out.size) (fun e => by have := (OR.out.lt j e.symm).1; omega)).trans (KR.out.block j hj)⟩
    · intro x v w1 cnt1 hw hlx hfx hrg1 hlt hg1 hs1 hen
      obtain ⟨s, hs, rfl⟩ : ∃ s, f x = some s ∧ v = .int .i64 s := by
        unfold SF at hfx
        obtain ⟨s, hs, rfl⟩ := Option.map_eq_some_iff.1 hfx
        exact ⟨s, hs, rfl⟩
      have O1 := Lib.hid (show vcK.Own w1 (w.heap.size + 1) u3 L from OR.out.keep (fun g e hM hg' => hg1.block g hg' (by simp; omega)))
      have K1 := Lib.hid (show Below w.heap.size w w1 from ⟨hg1.os.trans KR.out.os, hg1.tape.trans KR.out.tape, hg1.output.trans KR.out.output, Nat.le_trans KR.out.size hg1.size, fun k hk => (hg1.block k (Nat.lt_of_lt_of_le hk KR.out.size) (by simp; omega)).trans (KR.out.block k hk)⟩)
      have Z1 := Lib.hid (show w.heap.size + 1 ≤ w1.heap.size from by have := ZR.out; omega)
      have HST := Lib.hid (hst.out.step hs hlx)
      obtain ⟨gN, capN, wN, hr, ho, hgr⟩ := vc_more2 O1.out ⟨x, s⟩ (by omega) Z1.out
      have HR := Lib.hid hr
      have O2 := Lib.hid ho
      have R7 := Lib.hid (show RangesAt Tryd.prog 3 wN bm w.heap.size c (SF f) _ cnt1 from hrg1.kept hgr (fun e => by have := (O1.out.lt bm e.symm).1; omega) (fun e => by have := (O1.out.lt _ e.symm).1; omega))
      have K7 := Lib.hid (show Below w.heap.size w wN from ⟨hgr.os.trans K1.out.os, hgr.tape.trans K1.out.tape, hgr.output.trans K1.out.output, Nat.le_trans K1.out.size hgr.size, fun j hj => (hgr.block j (Nat.lt_of_lt_of_le hj K1.out.size) (fun e => by have := (O1.out.lt j e.symm).1; omega)).trans (K1.out.block j hj)⟩)
      have Z7 := Lib.hid (Nat.le_trans Z1.out hgr.size)
      have HL1 := Lib.hid R7.out.left_eq
      have hcz : (L ++ [(⟨x, s⟩ : Vc)]).length + cnt1 ≤ c := by simp; omega
      have HCZ := Lib.hid hcz
      clear hrg hfx hst OR KR ZR hg1 hs1 hrg1 hr ho hgr hcz hs
      go_wp2_with (at_builtin; refine Lib.wpList_append_run _ rfl (.tmp 16) (.tmp 20) 30 30 rfl _ _ rfl rfl _ _ HR.out ?_)
      go_roundw
      case measure => rw [HLE.out, HL1.out]; omega
      case rel => first | exact ⟨_, cnt1, _, R7.out, HST, HCZ.out, O2, K7, Z7⟩ | ((repeat apply Exists.intro); exact ⟨⟨_, cnt1, _, R7.out, HST, HCZ.out, O2, K7, Z7⟩, rfl⟩)
end Go.Proofs.YtefhbjkhmfmkaaaDoor
