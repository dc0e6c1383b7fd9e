import Derived.Test.YthgdkakkbaoccaaDoorPRing
/-! The law RingPlays: both rings' Put. -/
namespace Go.Proofs.YthgdkakkbaoccaaDoor
open Go.RowKit
set_option linter.unusedVariables false
set_option linter.unusedSimpArgs false
/-- between the two calls, where the number is new -/
structure MidR (M : Nat) (w0 : World) (n : Int) (b bm rb : Nat) (top T : Int) (c : Nat) (f : Int → Option Value) (v' : Value) (L L' : List Itm) (B : Nat → Prop) (y : World) : Prop where
  p : Rng y b n top bm c f
  r : RRng M y rb n T v' L'
  val : ∀ x ∈ L, ItemOk M y B f x
  sep : ∀ k, B k → k < y.heap.size ∧ k ≠ b ∧ k ≠ bm ∧ k ≠ rb ∧ v'.ownBlock ≠ some k
  kb : Below M w0 y
theorem rplays_put (M : Nat) (w0 : World) (hM : M ≤ w0.heap.size) (n : Int) (hn : 1 ≤ n ∧ n ≤ 64) (b bm rb i : Nat) (hi : i ≤ 1000) (num s t l lv : Int) (st : Bool) (oa : Option Addr) (bc : Nat) (body : List UInt8) (hbl : body.length ≤ maxLen) (hb : IsBytes w0 (.slice oa body.length bc) body) (hoa : ∀ a, oa = some a → body ≠ [] → a.block < M) (y : World) (h : StRE M w0 n b bm rb i y) :
    ∃ (B : Bool) (k : Int) (Q0 Q1 : World → Prop), Q0 y ∧ (∀ z, Q0 z → Q0 z.drew ∧ Below M w0 z) ∧ (∀ z, Q1 z → Q1 z.drew ∧ Below M w0 z) ∧
      (∀ z, Q0 z → Calls Tryd.prog 10 #[.pointer (some ⟨rb, 0, none⟩), .int .i64 num, pkV s t l lv st (.slice oa body.length bc)] z fun e w' => e = .returned (.tuple #[.bool B, .int .i64 k]) ∧ Q1 w' ∧ KF z w') ∧
      ∀ z, Q1 z → Calls Tryd.prog 11 #[.pointer (some ⟨b, 0, none⟩), .int .i64 num, pkV s t l lv st (.slice oa body.length bc)] z fun e w' => e = .returned (.tuple #[.bool B, errV k]) ∧ StRE M w0 n b bm rb (i + 1) w' ∧ KF z w' := by
  obtain ⟨top, c, f, v, L, B, S⟩ := h
  have more : ∀ z v', StR M w0 n b bm rb i top c f v' L B z → StRE M w0 n b bm rb (i + 1) z := fun z v' S => ⟨top, c, f, v', L, B, ⟨S.p, S.r, S.uni, S.dom, S.val, S.rng, by have := S.len; omega, S.top_, S.low, S.sep, S.kb⟩⟩
  have quiet : ∀ (k : Int), k ≠ 0 → (∀ z, Calls Tryd.prog 10 #[.pointer (some ⟨rb, 0, none⟩), .int .i64 num, pkV s t l lv st (.slice oa body.length bc)] z fun e w' => e = .returned (.tuple #[.bool false, .int .i64 k]) ∧ Below z.heap.size z w') → (∀ z, Calls Tryd.prog 11 #[.pointer (some ⟨b, 0, none⟩), .int .i64 num, pkV s t l lv st (.slice oa body.length bc)] z fun e w' => e = .returned (.tuple #[.bool false, errV k]) ∧ Below z.heap.size z w') →
      ∃ (B : Bool) (k : Int) (Q0 Q1 : World → Prop), Q0 y ∧ (∀ z, Q0 z → Q0 z.drew ∧ Below M w0 z) ∧ (∀ z, Q1 z → Q1 z.drew ∧ Below M w0 z) ∧
      (∀ z, Q0 z → Calls Tryd.prog 10 #[.pointer (some ⟨rb, 0, none⟩), .int .i64 num, pkV s t l lv st (.slice oa body.length bc)] z fun e w' => e = .returned (.tuple #[.bool B, .int .i64 k]) ∧ Q1 w' ∧ KF z w') ∧
      ∀ z, Q1 z → Calls Tryd.prog 11 #[.pointer (some ⟨b, 0, none⟩), .int .i64 num, pkV s t l lv st (.slice oa body.length bc)] z fun e w' => e = .returned (.tuple #[.bool B, errV k]) ∧ StRE M w0 n b bm rb (i + 1) w' ∧ KF z w' := fun k hk h1 h2 =>
    ⟨false, k, StR M w0 n b bm rb i top c f v L B, StR M w0 n b bm rb i top c f v L B, S, fun z hz => ⟨hz.drew, hz.kb⟩, fun z hz => ⟨hz.drew, hz.kb⟩,
      fun z hz => (h1 z).mono fun e w' ⟨q1, q2⟩ => ⟨q1, hz.below hM q2, KF.below q2⟩,
      fun z hz => (h2 z).mono fun e w' ⟨q1, q2⟩ => ⟨q1, more _ _ (hz.below hM q2), KF.below q2⟩⟩
  cases hl : Pl.long num
  · exact quiet 1 (by decide) (fun z => rRingPut_range rb num hl s t l lv st _ z) (fun z => (ringPut_range b num hl s t l lv st _ z).mono fun e w' ⟨q1, q2⟩ => ⟨by rw [q1, errV_hit 1 (by decide)], q2⟩)
  by_cases hp : Pl.pkOk s t l lv body.length
  case neg =>
    have hf : Pl.pkFault s t l lv body.length ≠ 0 := by rcases Pl.pkFault_bad hp with h | h <;> omega
    exact quiet _ hf (fun z => rRingPut_bad rb num hl s t l lv st oa _ bc hbl hp z) (fun z => (ringPut_bad b num hl s t l lv st oa _ bc hbl hp z).mono fun e w' ⟨q1, q2⟩ => ⟨by rw [q1, errV_hit _ hf], q2⟩)
  obtain ⟨hnum1, hnum2⟩ := (Pl.long_iff num).1 hl
  have hL : L.length ≤ 10000 := by have := S.len; omega
  have hbody : body.length ≤ 1000 := hp.2.2.2.2.2.2.2.2
  -- what the reference's call leaves of both
  have mid : ∀ {z w' v' L' T}, StR M w0 n b bm rb i top c f v L B z → RRng M w' rb n T v' L' → RRFP rb v z w' → (∀ g, v'.ownBlock = some g → v.ownBlock = some g ∨ z.heap.size ≤ g) → MidR M w0 n b bm rb top T c f v' L L' B w' := fun {z w' v' L' T} hz hr hf hg => by
    have kept : ∀ j, (B j ∨ j < M) → w'.heap[j]? = z.heap[j]? := fun j hj => by
      rcases hj with hj | hj
      · obtain ⟨s1, s2, s3, s4, s5⟩ := hz.sep j hj
        exact hf.block j s1 (fun e => Or.elim e s4 s5)
      · have hsz := Nat.le_trans hM hz.kb.size
        exact hf.block j (by omega) (fun e => by
          rcases e with e | e
          · have := hz.r.low; omega
          · have := (hz.r.row.lt j e).1; omega)
    have nR : ∀ j, (j = rb ∨ v.ownBlock = some j) → (∀ cs, z.heap[j]? ≠ some (Obj.cells cs 106 (0, 0))) ∧ (∀ es ck, z.heap[j]? ≠ some (Obj.map es ck)) := fun j hj => by
      rcases hj with rfl | hj
      · have a := hz.r.at_
        unfold RRingAt at a
        refine ⟨fun cs e => ?_, fun es ck e => ?_⟩ <;> rw [a] at e <;> simp at e
      · rcases hz.r.row.2 with ⟨rfl, _⟩ | ⟨g', cap, cur, rfl, hb', hg', _⟩
        · cases hj
        · simp [Value.ownBlock] at hj
          subst hj
          refine ⟨fun cs e => ?_, fun es ck e => ?_⟩ <;> rw [hg'] at e <;> simp [itemK] at e
    refine ⟨⟨Keeps.heap hf hz.p.at_ (fun e => (nR b e).1 _ hz.p.at_), hz.p.map.block (hf.block bm hz.p.map.lt (fun e => ?_)), hz.p.ne⟩, hr, fun x hx => (hz.val x hx).keep kept (fun _ e => e) rfl, fun j hj => ?_, hz.kb.trans (hf.below hz.r (Nat.le_trans hM hz.kb.size))⟩
    · obtain ⟨D, ⟨es, clock, q1, _⟩, _⟩ := hz.p.map
      exact (nR bm e).2 _ _ q1
    · obtain ⟨s1, s2, s3, s4, s5⟩ := hz.sep j hj
      refine ⟨Nat.lt_of_lt_of_le s1 hf.size, s2, s3, s4, fun e => ?_⟩
      rcases hg j e with e' | e'
      · exact s5 e'
      · omega
  have midDrew : ∀ {z v' L' T}, MidR M w0 n b bm rb top T c f v' L L' B z → MidR M w0 n b bm rb top T c f v' L L' B z.drew := fun {z v' L' T} h =>
    ⟨h.p.drewN 1, ⟨by exact h.r.at_, by exact h.r.row, h.r.low⟩, fun x hx => (h.val x hx).keep (fun j _ => rfl) (fun _ e => e) rfl, h.sep, Below.drewN h.kb 1⟩
  have back : ∀ {z v'}, MidR M w0 n b bm rb top top c f v' L L B z → StR M w0 n b bm rb i top c f v' L B z := fun {z v'} h => ⟨h.p, h.r, S.uni, S.dom, h.val, S.rng, S.len, S.top_, S.low, h.sep, h.kb⟩
  have REF := fun z (hz : StR M w0 n b bm rb i top c f v L B z) => rRingPut_ok M rb n top v L num hl hn S.top_ s t l lv st oa body.length bc hp hL S.rng z (Nat.le_trans hM hz.kb.size) hz.r
  by_cases hold : num ≤ top - n
  · refine ⟨false, 6, StR M w0 n b bm rb i top c f v L B, fun z => ∃ v', StR M w0 n b bm rb i top c f v' L B z, S, fun z hz => ⟨hz.drew, hz.kb⟩, fun z ⟨v', hz⟩ => ⟨⟨v', hz.drew⟩, hz.kb⟩, fun z hz => ?_, fun z ⟨v', hz⟩ => ?_⟩
    · refine (REF z hz).mono fun e w' ⟨Bo, k, T, v', L', q1, q2, q3, q4, q5⟩ => ?_
      rcases q5 with ⟨_, rfl, rfl, rfl, rfl⟩ | ⟨q5, _⟩ | ⟨q5, _⟩
      · exact ⟨q1, ⟨v', back (mid hz q2 q3 q4)⟩, hz.kfR q3⟩
      · exact absurd hold q5
      · exact absurd hold q5
    · exact (ringPut_old b n top bm c f num hl hn S.top_ s t l lv st oa body.length bc hp hold z hz.p).mono fun e w' ⟨q1, q2⟩ => ⟨by rw [q1, errV_hit 6 (by decide)], more _ _ (hz.below hM q2), KF.below q2⟩
  by_cases hhas : ∃ x ∈ L, x.num = num
  · refine ⟨false, 0, StR M w0 n b bm rb i top c f v L B, fun z => ∃ v', StR M w0 n b bm rb i top c f v' L B z, S, fun z hz => ⟨hz.drew, hz.kb⟩, fun z ⟨v', hz⟩ => ⟨⟨v', hz.drew⟩, hz.kb⟩, fun z hz => ?_, fun z ⟨v', hz⟩ => ?_⟩
    · refine (REF z hz).mono fun e w' ⟨Bo, k, T, v', L', q1, q2, q3, q4, q5⟩ => ?_
      rcases q5 with ⟨q5, _⟩ | ⟨_, _, rfl, rfl, rfl, rfl⟩ | ⟨_, q5, _⟩
      · exact absurd q5 hold
      · exact ⟨q1, ⟨v', back (mid hz q2 q3 q4)⟩, hz.kfR q3⟩
      · obtain ⟨x, hx, e⟩ := hhas
        exact absurd e (q5 x hx)
    · obtain ⟨x, hx, ex⟩ := hhas
      obtain ⟨oa', bc', body', h1, _⟩ := hz.val x hx
      rw [ex] at h1
      exact (ringPut_has b n top bm c f num hl hn S.top_ s t l lv st oa body.length bc hp hold x.s x.t x.l x.lv x.st oa' body'.length bc' h1 z hz.p).mono fun e w' ⟨q1, q2⟩ => ⟨by rw [q1, errV_nil], more _ _ (hz.below hM q2), KF.below q2⟩
  · have hno : f num = none := by
      cases e : f num with
      | none => rfl
      | some u =>
        exfalso
        have := (S.dom num).1 (by rw [e]; rfl)
        obtain ⟨x, hx, ex⟩ := List.mem_map.1 this
        exact hhas ⟨x, hx, ex⟩
    obtain ⟨T, hT⟩ : ∃ T, T = (if top < num then num else top) := ⟨_, rfl⟩
    obtain ⟨X, hX⟩ : ∃ X : Itm, X = ⟨num, false, s, t, l, lv, st, oa, body.length, bc⟩ := ⟨_, rfl⟩
    obtain ⟨L', hL'⟩ : ∃ L', L' = (L ++ [X]).filter (fun y => decide (T - n < y.num)) := ⟨_, rfl⟩
    refine ⟨true, 0, StR M w0 n b bm rb i top c f v L B, fun z => ∃ v', MidR M w0 n b bm rb top T c f v' L L' B z, S, fun z hz => ⟨hz.drew, hz.kb⟩, fun z ⟨v', hz⟩ => ⟨⟨v', midDrew hz⟩, hz.kb⟩, fun z hz => ?_, fun z ⟨v', hz⟩ => ?_⟩
    · refine (REF z hz).mono fun e w' ⟨Bo, k, T', v', L'', q1, q2, q3, q4, q5⟩ => ?_
      rcases q5 with ⟨q5, _⟩ | ⟨_, q5, _⟩ | ⟨_, _, rfl, rfl, e1, e2⟩
      · exact absurd q5 hold
      · exact absurd q5 hhas
      · have e1' : T' = T := by rw [hT]; exact e1
        subst e1'
        have e2' : L'' = L' := by rw [hL', hX]; exact e2
        subst e2'
        exact ⟨q1, ⟨v', mid hz q2 q3 q4⟩, hz.kfR q3⟩
    · have hzs := Nat.le_trans hM hz.kb.size
      have hv : ∀ W, KR2 b bm z W → IsBytes W (.slice oa body.length bc) body := fun W k => bytes_keep (P := fun j => j < M) hb hoa (fun j hj => by
        rw [k.block j (by omega) (fun e => by have := S.low; rcases e with e | e <;> omega)]
        exact hz.kb.block j hj)
      have eT : Pl.topOf top num = T := hT.symm
      have hTn : num ≤ T ∧ top ≤ T ∧ (T = top ∨ T = num) := by rw [hT]; split <;> omega
      have hXn : X.num = num := by rw [hX]
      have memL : ∀ x, x ∈ L' ↔ (x ∈ L ∨ x = X) ∧ T - n < x.num := fun x => by
        rw [hL', List.mem_filter, List.mem_append, List.mem_singleton]; simp
      refine (ringPut_new b n top bm c f S.all (by rw [S.cnt]; omega) num hl hn S.top_ s t l lv st _ body hp hold hno z hv hz.p).mono fun e w' ⟨oa8, c8, c', q1, q2, q3, q4, q5⟩ => ?_
      rw [eT] at q3
      have kept : ∀ j, (B j ∨ j < M) → w'.heap[j]? = z.heap[j]? := fun j hj => by
        rcases hj with hj | hj
        · obtain ⟨s1, s2, s3, _⟩ := hz.sep j hj
          exact q5.block j s1 (fun e => Or.elim e s2 s3)
        · exact q5.block j (by omega) (fun e => by have := S.low; rcases e with e | e <;> omega)
      have fix := bytes_fix q4
      have nP : ∀ j, (j = b ∨ j = bm) → (∀ cs, z.heap[j]? ≠ some (Obj.cells cs 33 (0, 0))) ∧ (∀ cs, z.heap[j]? ≠ some (Obj.cells cs 44 (0, 0))) := fun j hj => by
        rcases hj with rfl | rfl
        · have a := hz.p.at_
          unfold RingAt at a
          refine ⟨fun cs e => ?_, fun cs e => ?_⟩ <;> rw [a] at e <;> simp at e
        · obtain ⟨D, ⟨es, clock, a, _⟩, _⟩ := hz.p.map
          refine ⟨fun cs e => ?_, fun cs e => ?_⟩ <;> rw [a] at e <;> cases e
      have hLnum : ∀ x ∈ L, x.num ≠ num := fun x hx e => hhas ⟨x, hx, e⟩
      refine ⟨by rw [q1, errV_nil], ⟨T, c', _, v', L', fun k => B k ∨ (z.heap.size ≤ k ∧ k < w'.heap.size), ⟨q3, hz.r.keep q5 (fun j hj => .inr (nP j hj)), ?_, fun j => ?_, fun x hx => ?_, fun x hx => ?_, ?_, ?_, S.low, fun k hk => ?_, hz.kb.trans (Keeps.below q5 hzs (fun j hj e => by have := S.low; rcases e with e | e <;> omega))⟩⟩, KF.prog hz.p q5⟩
      · rw [hL']
        refine List.Nodup.sublist (List.Sublist.map _ List.filter_sublist) ?_
        rw [List.map_append]
        refine List.nodup_append.2 ⟨S.uni, by simp, fun a ha a' ha' => ?_⟩
        obtain ⟨x, hx, rfl⟩ := List.mem_map.1 ha
        simp at ha'
        subst ha'
        rw [hXn]
        exact hLnum x hx
      · rw [List.mem_map]
        unfold Pl.ringF
        by_cases h1 : j ≤ T - n
        · rw [if_pos h1]
          constructor
          · intro e; cases e
          · rintro ⟨x, hx, rfl⟩
            have := ((memL x).1 hx).2; omega
        · rw [if_neg h1]
          by_cases h2 : j = num
          · rw [if_pos h2]
            exact ⟨fun _ => ⟨X, (memL X).2 ⟨.inr rfl, by rw [hXn]; omega⟩, by rw [hXn, h2]⟩, fun _ => rfl⟩
          · rw [if_neg h2, S.dom j, List.mem_map]
            constructor
            · rintro ⟨x, hx, rfl⟩
              exact ⟨x, (memL x).2 ⟨.inl hx, by omega⟩, rfl⟩
            · rintro ⟨x, hx, rfl⟩
              rcases ((memL x).1 hx).1 with hx' | rfl
              · exact ⟨x, hx', rfl⟩
              · exact absurd hXn h2
      · obtain ⟨hx1, hx2⟩ := (memL x).1 hx
        rcases hx1 with hx1 | rfl
        · refine (hz.val x hx1).keep kept (fun _ e => .inl e) ?_
          unfold Pl.ringF
          rw [if_neg (by omega), if_neg (hLnum x hx1)]
        · refine ⟨oa8, c8, body, ?_, fix.1, ?_, hbody, fun a ha hne => .inr (fix.2 a ha hne), ?_⟩
          · unfold Pl.ringF
            rw [hXn] at hx2
            rw [hXn, if_neg (by omega), if_pos rfl, hX]
          · rw [hX]; exact hv w' q5
          · rw [hX]; exact hoa
      · rcases ((memL x).1 hx).1 with hx1 | rfl
        · exact S.rng x hx1
        · rw [hXn]; exact ⟨hnum1, hnum2⟩
      · have h1 : L'.length ≤ (L ++ [X]).length := by rw [hL']; exact List.length_filter_le _ _
        have := S.len
        simp at h1; omega
      · have := S.top_; omega
      · rcases hk with hk | hk
        · obtain ⟨s1, s2⟩ := hz.sep k hk
          exact ⟨Nat.lt_of_lt_of_le s1 q5.size, s2⟩
        · refine ⟨hk.2, fun e => ?_, fun e => ?_, fun e => ?_, fun e => ?_⟩
          · have := lt_of_block hz.p.at_; omega
          · have := hz.p.map.lt; omega
          · have := lt_of_block hz.r.at_; omega
          · have := (hz.r.row.lt k e).2; omega
end Go.Proofs.YthgdkakkbaoccaaDoor
