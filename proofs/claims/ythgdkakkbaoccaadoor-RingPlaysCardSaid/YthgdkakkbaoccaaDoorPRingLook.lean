import Derived.Test.YthgdkakkbaoccaaDoorPRingPut
/-! The law RingPlays: the looks at both rings. -/
namespace Go.Proofs.YthgdkakkbaoccaaDoor
open Go.RowKit
set_option linter.unusedVariables false
set_option linter.unusedSimpArgs false
theorem LowI.ex (L : List Itm) : ∃ m, LowI L m := by
  induction L with
  | nil => exact ⟨-1, .inl ⟨rfl, rfl⟩⟩
  | cons x r ih =>
    obtain ⟨m, hm⟩ := ih
    rcases hm with ⟨_, rfl⟩ | ⟨⟨y, hy, rfl⟩, h2⟩
    · exact ⟨x.num, .inr ⟨⟨x, .head _, rfl⟩, fun z hz => by simp at hz; subst hz; exact Int.le_refl _⟩⟩
    · by_cases h : x.num ≤ y.num
      · refine ⟨x.num, .inr ⟨⟨x, .head _, rfl⟩, fun z hz => ?_⟩⟩
        rcases List.mem_cons.1 hz with rfl | hz
        · exact Int.le_refl _
        · exact Int.le_trans h (h2 z hz)
      · refine ⟨y.num, .inr ⟨⟨y, .tail _ hy, rfl⟩, fun z hz => ?_⟩⟩
        rcases List.mem_cons.1 hz with rfl | hz
        · omega
        · exact h2 z hz
theorem LowI.uniq {L : List Itm} {m m' : Int} (h : LowI L m) (h' : LowI L m') : m = m' := by
  rcases h with ⟨rfl, rfl⟩ | ⟨⟨x, hx, rfl⟩, h2⟩
  · rcases h' with ⟨rfl, _⟩ | ⟨⟨x, hx, _⟩, _⟩
    · rfl
    · cases hx
  · rcases h' with ⟨_, rfl⟩ | ⟨⟨x', hx', rfl⟩, h2'⟩
    · cases hx
    · have := h2 x' hx'; have := h2' x hx; omega
theorem rplays_look (M : Nat) (w0 : World) (hM : M ≤ w0.heap.size) (n : Int) (b bm rb i : Nat) (hi : i ≤ 1000) (y : World) (h : StRE M w0 n b bm rb i y) :
    ∃ (T m : Int) (oa : Option Addr) (Lc cap : Nat) (Q0 : World → Prop), Lc ≤ 1000 ∧ Q0 y ∧ (∀ z, Q0 z → Q0 z.drew) ∧ (∀ z, Q0 z → z.cell? ⟨rb, 1, none⟩ = some (.int .i64 T) ∧ z.cell? ⟨rb, 2, none⟩ = some (.slice oa Lc cap) ∧ StRE M w0 n b bm rb i z) ∧
      (∀ z, Q0 z → Calls Tryd.prog 12 #[.pointer (some ⟨b, 0, none⟩)] z fun e w' => e = .returned (.int .i64 T) ∧ Q0 w') ∧
      (∀ z, Q0 z → Calls Tryd.prog 13 #[.pointer (some ⟨b, 0, none⟩)] z fun e w' => e = .returned (.int .i64 m) ∧ Q0 w') ∧
      (∀ z, Q0 z → Calls Tryd.prog 14 #[.pointer (some ⟨rb, 0, none⟩)] z fun e w' => e = .returned (.int .i64 m) ∧ Q0 w') ∧
      (∀ z, Q0 z → Calls Tryd.prog 15 #[.pointer (some ⟨b, 0, none⟩)] z fun e w' => e = .returned (.int .i64 (Lc : Int)) ∧ Q0 w') := by
  obtain ⟨top, c, f, v, L, B, S⟩ := h
  obtain ⟨oa, cap, rfl, _⟩ := S.r.row.read itemK_ok
  obtain ⟨m, hm⟩ := LowI.ex L
  have hL : L.length ≤ 1000 := by have := S.len; omega
  have hc := S.cnt
  refine ⟨top, m, oa, L.length, cap, StR M w0 n b bm rb i top c f (.slice oa L.length cap) L B, hL, S, fun z hz => hz.drew, fun z hz => ⟨obj_cell hz.r.at_ rfl, obj_cell hz.r.at_ rfl, ⟨top, c, f, _, L, B, hz⟩⟩, fun z hz => ?_, fun z hz => ?_, fun z hz => ?_, fun z hz => ?_⟩
  · exact (ringTop_any b n top bm z hz.p.at_).mono fun e w' ⟨h1, h2⟩ => ⟨h1, h2 ▸ hz⟩
  · by_cases h0 : c = 0
    · have hLe : L = [] := List.eq_nil_of_length_eq_zero (by omega)
      have hm1 : m = -1 := by
        rcases hm with ⟨e, _⟩ | ⟨⟨x, hx, _⟩, _⟩
        · exact e
        · rw [hLe] at hx; cases hx
      have hp := hz.p
      rw [h0] at hp
      exact (ringLow_none b n top bm f z hp).mono fun e w' ⟨h1, h2⟩ => ⟨by rw [h1, hm1], h2 ▸ hz⟩
    · refine (ringLow_some b n top bm c f (by omega) (by omega) z hz.p).mono fun e w' ⟨m', h1, h2, h3, h4⟩ => ⟨?_, hz.below hM h4⟩
      have : LowI L m' := by
        obtain ⟨x, hx, e⟩ := List.mem_map.1 ((S.dom m').1 h2)
        exact .inr ⟨⟨x, hx, e⟩, fun x' hx' => h3 _ ((S.dom _).2 (List.mem_map.2 ⟨x', hx', rfl⟩))⟩
      rw [h1, LowI.uniq this hm]
  · exact (rRingLow_any M rb n top _ L (by omega) (fun x hx => (S.rng x hx).1) z hz.r).mono fun e w' ⟨m', h1, h2, h3⟩ => ⟨by rw [h1, LowI.uniq h2 hm], h3 ▸ hz⟩
  · exact (ringLen_any b n top bm c f z hz.p).mono fun e w' ⟨h1, h2⟩ => ⟨by rw [h1, hc], h2 ▸ hz⟩
/-- what is asked for: not there -/
theorem rplays_none (M : Nat) (w0 : World) (hM : M ≤ w0.heap.size) (n : Int) (b bm rb i : Nat) (hi : i ≤ 1000) (num : Int) (hw : (Lit.int .i64 num).wf = true) {top : Int} {c : Nat} {f : Int → Option Value} {v : Value} {L : List Itm} {B : Nat → Prop} {y : World} (S : StR M w0 n b bm rb i top c f v L B y) (hno : ∀ x ∈ L, x.num ≠ num) :
    (∀ z, Below y.heap.size y z → Calls Tryd.prog 16 #[.pointer (some ⟨rb, 0, none⟩), .int .i64 num] z (fun e w' => e = .returned (.int .i64 (-1)) ∧ z = w')) ∧
    ∀ z, Below y.heap.size y z → Calls Tryd.prog 17 #[.pointer (some ⟨b, 0, none⟩), .int .i64 num] z fun e w' => e = .returned (.tuple #[pkV 0 0 0 0 false (.slice none 0 0), errV 5]) ∧ Below z.heap.size z w' := by
  refine ⟨fun z hz => (rRingAt_any M rb n top v L num (by have := S.len; omega) z (S.below hM hz).r).mono fun e w' ⟨k, h1, h2, h3⟩ => ⟨?_, h3⟩, fun z hz => ?_⟩
  · rcases h2 with ⟨rfl, _⟩ | ⟨j, _, hj, h⟩
    · exact h1
    · exact absurd h (hno _ (List.getElem_mem hj))
  · have hf : f num = none := by
      cases e : f num with
      | none => rfl
      | some u =>
        obtain ⟨x, hx, ex⟩ := List.mem_map.1 ((S.dom num).1 (by rw [e]; rfl))
        exact absurd ex (hno x hx)
    exact (ringGet_none b n top bm c f num hw hf z (S.below hM hz).p).mono fun e w' ⟨h1, h2⟩ => ⟨by rw [h1, errV_hit 5 (by decide)], h2⟩
/-- .. there -/
theorem rplays_some (M : Nat) (w0 : World) (hM : M ≤ w0.heap.size) (n : Int) (b bm rb i : Nat) (hi : i ≤ 1000) (num : Int) (hw : (Lit.int .i64 num).wf = true) {top : Int} {c : Nat} {f : Int → Option Value} {v : Value} {L : List Itm} {B : Nat → Prop} {y : World} (S : StR M w0 n b bm rb i top c f v L B y) (hyes : ∃ x ∈ L, x.num = num) :
    ∃ (j : Nat) (x : Itm) (body : List UInt8), L[j]? = some x ∧ (∀ z, Below y.heap.size y z → IsBytes z (.slice x.oa x.bn x.bc) body) ∧
    (∀ z, Below y.heap.size y z → Calls Tryd.prog 16 #[.pointer (some ⟨rb, 0, none⟩), .int .i64 num] z (fun e w' => e = .returned (.int .i64 (j : Int)) ∧ z = w')) ∧
    ∀ z, Below y.heap.size y z → Calls Tryd.prog 17 #[.pointer (some ⟨b, 0, none⟩), .int .i64 num] z fun e w' => ∃ oa8 c8, e = .returned (.tuple #[pkV x.s x.t x.l x.lv x.st (.slice oa8 body.length c8), errV 0]) ∧ (∀ W, Keeps (fun k => k < z.heap.size) w' W → IsBytes W (.slice oa8 body.length c8) body) ∧ Below z.heap.size z w' := by
  obtain ⟨x, hx, ex⟩ := hyes
  obtain ⟨j, hj, hjx⟩ := List.mem_iff_getElem.1 hx
  obtain ⟨oa, bc, body, h1, h2, h3, h4, h5, h6⟩ := S.val x hx
  have uni : ∀ j' (hj' : j' < L.length), L[j'].num = num → j' = j := fun j' hj' e => by
    have hn := S.uni
    have e1 : (L.map Itm.num)[j']'(by simp; exact hj') = (L.map Itm.num)[j]'(by simp; exact hj) := by
      rw [List.getElem_map, List.getElem_map, e, hjx, ex]
    rcases Nat.lt_trichotomy j' j with q | q | q
    · exact absurd e1 (List.pairwise_iff_getElem.1 hn j' j _ _ q)
    · exact q
    · exact absurd e1.symm (List.pairwise_iff_getElem.1 hn j j' _ _ q)
  refine ⟨j, x, body, by rw [List.getElem?_eq_getElem hj, hjx], fun z hz => h3.below hz, fun z hz => (rRingAt_any M rb n top v L num (by have := S.len; omega) z (S.below hM hz).r).mono fun e w' ⟨k, q1, q2, q3⟩ => ⟨?_, q3⟩, fun z hz => ?_⟩
  · rcases q2 with ⟨_, q⟩ | ⟨j', rfl, hj', q⟩
    · exact absurd ex (q x hx)
    · rw [q1, uni j' hj' q]
  · rw [← ex] at hw ⊢
    exact (ringGet_some b n top bm c f x.num hw x.s x.t x.l x.lv x.st oa bc body h4 h1 z (h2.below hz) (S.below hM hz).p).mono fun e w' ⟨oa8, c8, g1, g2, g3⟩ => ⟨oa8, c8, by rw [g1, errV_nil], g2, g3⟩
end Go.Proofs.YthgdkakkbaoccaaDoor
