import Derived.Test.YtlfdkoebjddokaaDoorPOrd
/-! The steps of the law OrderPlays. -/
namespace Go.Proofs.YtlfdkoebjddokaaDoor
open Go.RowKit
set_option linter.unusedVariables false
set_option linter.unusedSimpArgs false
theorem oTime_ok {now x : Int} (h : Pl.clockOk now x) : Pl.oTime now x = 0 := by
  unfold Pl.clockOk at h; unfold Pl.oTime
  rw [if_pos ⟨h.1, h.2.1⟩, if_neg (by omega)]
theorem oTime_bad {now x : Int} (h : ¬ Pl.clockOk now x) : Pl.oTime now x = Pl.clockFault x := by
  unfold Pl.clockOk at h; unfold Pl.oTime Pl.clockFault
  by_cases e : 0 ≤ x ∧ x ≤ 1000000
  · rw [if_pos e, if_pos (by omega), if_neg (by omega)]
  · rw [if_neg e, if_pos (by omega)]
theorem clockFault_ne (x : Int) : Pl.clockFault x ≠ 0 := by unfold Pl.clockFault; split <;> decide
theorem fresh_eq {f : Int → Option Value} {L : List KI} {next : Int} (rel : PO f L next) (num T : Int) : Pl.fresh f num T = true ↔ (T ≤ num ∧ num < T + 200 ∧ ∀ x ∈ L, x.num ≠ num) := by
  unfold Pl.fresh
  have : (f num).isNone = true ↔ ∀ x ∈ L, x.num ≠ num := by
    constructor
    · intro h x hx e
      have := (rel.dom num).2 (List.mem_map.2 ⟨x, hx, e⟩)
      cases q : f num with
      | none => rw [q] at this; cases this
      | some u => rw [q] at h; cases h
    · intro h
      cases q : f num with
      | none => rfl
      | some u =>
        obtain ⟨x, hx, e⟩ := List.mem_map.1 ((rel.dom num).1 (by rw [q]; rfl))
        exact absurd e (h x hx)
  rw [Bool.and_eq_true, this, decide_eq_true_iff]
  constructor
  · rintro ⟨h1, h2, h3⟩; exact ⟨h2, h3, h1⟩
  · rintro ⟨h1, h2, h3⟩; exact ⟨h3, h1, h2⟩
/-- one more is kept -/
theorem PO.more {f : Int → Option Value} {L : List KI} {next T : Int} (rel : PO f L next) (x : KI) (u : Value) (hT : T = next ∨ (next < 0 ∧ T = x.num)) (h1 : T ≤ x.num) (h2 : x.num < T + 200) (h3 : 0 ≤ x.num ∧ x.num ≤ 1099511627776) (h4 : 0 ≤ x.at_ ∧ x.at_ ≤ 1000000) (hno : ∀ y ∈ L, y.num ≠ x.num) (h0 : 0 ≤ T) : PO (fun j => if j = x.num then some u else f j) (L ++ [x]) T := by
  refine ⟨?_, fun j => ?_, fun y hy => ?_, ?_, fun e => by omega⟩
  · rw [List.map_append]
    refine List.nodup_append.2 ⟨rel.uni, by simp, fun a ha a' ha' => ?_⟩
    obtain ⟨y, hy, rfl⟩ := List.mem_map.1 ha
    simp at ha'
    subst ha'
    exact hno y hy
  · rw [List.map_append, List.mem_append]
    by_cases e : j = x.num
    · rw [if_pos e]; simp [e]
    · rw [if_neg e, rel.dom j]; simp [e]
  · rcases List.mem_append.1 hy with hy | hy
    · have := rel.rng y hy
      rcases hT with rfl | ⟨q, _⟩
      · exact this
      · have := rel.emp q; subst this; cases hy
    · simp at hy; subst hy; exact ⟨h1, h2, h3.1, h3.2, h4⟩
  · have := rel.nx
    rcases hT with rfl | ⟨_, rfl⟩ <;> omega
theorem PO.turn {f : Int → Option Value} {L : List KI} {next T : Int} (rel : PO f L next) (hT : T = next ∨ (next < 0 ∧ 0 ≤ T ∧ T ≤ 1099511627776)) : PO f L T := by
  rcases hT with rfl | ⟨h1, h2, h3⟩
  · exact rel
  · have := rel.emp h1
    subst this
    exact ⟨rel.uni, rel.dom, fun x hx => (by cases hx), by omega, fun _ => rfl⟩
section
variable {M A X : Nat} {w0 : World} {a : Nat → Int} {s t l lv : Int} {st : Bool} {oa : Option Addr} {bc : Nat} {body : List UInt8} {wait : Int} {b bm rb i : Nat} {y : World}
/-- Push: the reference first -/
theorem oplays_push (hM : M ≤ w0.heap.size) (hi : i ≤ 1000) (hbl : body.length ≤ maxLen) (hb : IsBytes w0 (.slice oa body.length bc) body) (hoa : ∀ a, oa = some a → body ≠ [] → a.block < M) (h : StA M A X w0 a s t l lv st (.slice oa body.length bc) wait b bm rb i y) :
    ∃ (Bo : Bool) (k : Int) (Q1 : World → Prop), (∀ z, Q1 z → Arr3 z A a ∧ PkIn z X s t l lv st (.slice oa body.length bc)) ∧
      (Calls Tryd.prog 7 #[.pointer (some ⟨rb, 0, none⟩), .int .i64 (a 1), pkV s t l lv st (.slice oa body.length bc), .int .i64 (a 2)] y fun e w' => e = .returned (.tuple #[.bool Bo, .int .i64 k]) ∧ Q1 w') ∧
      ∀ z, Q1 z → Calls Tryd.prog 8 #[.pointer (some ⟨b, 0, none⟩), .int .i64 (a 1), pkV s t l lv st (.slice oa body.length bc), .int .i64 (a 2)] z fun e w' => e = .returned (.tuple #[.bool Bo, errV k]) ∧ StA M A X w0 a s t l lv st (.slice oa body.length bc) wait b bm rb (i + 1) w' := by
  obtain ⟨now, next, c, f, v, L, B, S⟩ := h
  have same : ∀ z, QO M A X w0 a s t l lv st (.slice oa body.length bc) wait b bm rb now next c f now next v L L B z → StA M A X w0 a s t l lv st (.slice oa body.length bc) wait b bm rb (i + 1) z := fun z hz => ⟨now, next, c, f, v, L, B, hz, S.rel, by have := S.len; omega, S.clk⟩
  have hnx := S.rel.nx
  have quiet : ∀ (k : Int), k ≠ 0 → (Pl.oTime now (a 2) = k ∨ (Pl.oTime now (a 2) = 0 ∧ Pl.long (a 1) = false ∧ k = 1) ∨ (Pl.oTime now (a 2) = 0 ∧ Pl.long (a 1) = true ∧ Pl.pkFault s t l lv body.length = k) ∨ (Pl.oTime now (a 2) = 0 ∧ Pl.long (a 1) = true ∧ Pl.pkOk s t l lv body.length ∧ 0 ≤ next ∧ next + 200 ≤ a 1 ∧ k = 4)) →
      ((¬ Pl.clockOk now (a 2) ∧ k = Pl.clockFault (a 2)) ∨ (Pl.clockOk now (a 2) ∧ Pl.long (a 1) = false ∧ k = 1) ∨ (Pl.clockOk now (a 2) ∧ Pl.long (a 1) = true ∧ ¬ Pl.pkOk s t l lv body.length ∧ k = Pl.pkFault s t l lv body.length) ∨ (Pl.clockOk now (a 2) ∧ Pl.long (a 1) = true ∧ Pl.pkOk s t l lv body.length ∧ 0 ≤ next ∧ next + 200 ≤ a 1 ∧ k = 4)) →
      ∃ (Bo : Bool) (k : Int) (Q1 : World → Prop), (∀ z, Q1 z → Arr3 z A a ∧ PkIn z X s t l lv st (.slice oa body.length bc)) ∧
      (Calls Tryd.prog 7 #[.pointer (some ⟨rb, 0, none⟩), .int .i64 (a 1), pkV s t l lv st (.slice oa body.length bc), .int .i64 (a 2)] y fun e w' => e = .returned (.tuple #[.bool Bo, .int .i64 k]) ∧ Q1 w') ∧
      ∀ z, Q1 z → Calls Tryd.prog 8 #[.pointer (some ⟨b, 0, none⟩), .int .i64 (a 1), pkV s t l lv st (.slice oa body.length bc), .int .i64 (a 2)] z fun e w' => e = .returned (.tuple #[.bool Bo, errV k]) ∧ StA M A X w0 a s t l lv st (.slice oa body.length bc) wait b bm rb (i + 1) w' := fun k hk h1 h2 =>
    ⟨false, k, QO M A X w0 a s t l lv st (.slice oa body.length bc) wait b bm rb now next c f now next v L L B, fun z hz => ⟨hz.arr, hz.box⟩,
      (rPush_bad rb wait now next v (a 1) (a 2) s t l lv st oa body.length bc hbl k hk (by omega) h1 y S.q.r.at_).mono fun e w' ⟨q1, q2⟩ => ⟨q1, S.q.below hM q2⟩,
      fun z hz => (orderPush_bad b now wait next (a 2) bm (a 1) s t l lv st oa body.length bc hbl k hk (by omega) h2 z hz.p.at_).mono fun e w' ⟨q1, q2⟩ => ⟨by rw [q1, errV_hit k hk], same _ (hz.below hM q2)⟩⟩
  by_cases hc : Pl.clockOk now (a 2)
  case neg => exact quiet _ (clockFault_ne _) (.inl (oTime_bad hc)) (.inl ⟨hc, rfl⟩)
  have hct := oTime_ok hc
  cases hl : Pl.long (a 1)
  · exact quiet 1 (by decide) (.inr (.inl ⟨hct, hl, rfl⟩)) (.inr (.inl ⟨hc, hl, rfl⟩))
  by_cases hp : Pl.pkOk s t l lv body.length
  case neg =>
    have hf : Pl.pkFault s t l lv body.length ≠ 0 := by rcases Pl.pkFault_bad hp with h | h <;> omega
    exact quiet _ hf (.inr (.inr (.inl ⟨hct, hl, rfl⟩))) (.inr (.inr (.inl ⟨hc, hl, hp, rfl⟩)))
  by_cases hfu : 0 ≤ next ∧ next + 200 ≤ a 1
  · exact quiet 4 (by decide) (.inr (.inr (.inr ⟨hct, hl, hp, hfu.1, hfu.2, rfl⟩))) (.inr (.inr (.inr ⟨hc, hl, hp, hfu.1, hfu.2, rfl⟩)))
  obtain ⟨hnum1, hnum2⟩ := (Pl.long_iff (a 1)).1 hl
  have hcn : 0 ≤ a 2 ∧ a 2 ≤ 1000000 := ⟨hc.1, hc.2.1⟩
  have hL := S.len
  have hbody : body.length ≤ 1000 := hp.2.2.2.2.2.2.2.2
  obtain ⟨T, hT⟩ : ∃ T, T = (if next < 0 then a 1 else next) := ⟨_, rfl⟩
  have hT' : T = next ∨ (next < 0 ∧ T = a 1) := by rw [hT]; split <;> omega
  have hT0 : 0 ≤ T := by rw [hT]; split <;> omega
  have hTf : a 1 < T + 200 := by omega
  have relT : PO f L T := S.rel.turn (by rcases hT' with h | ⟨h1, h2⟩ <;> omega)
  have REF := rPush_ok M rb wait now next v L (a 1) (a 2) hct hl (by omega) (by omega) s t l lv st oa body.length bc hp T hT (by omega) (by omega) y (S.q.size hM) S.q.r
  have hyv : ∀ z, Below M w0 z → IsBytes z (.slice oa body.length bc) body := fun z k => bytes_keep (P := fun j => j < M) hb hoa (fun j hj => k.block j hj)
  cases hfr : Pl.fresh f (a 1) T with
  | false =>
    have hno : ¬ (T ≤ a 1 ∧ a 1 < T + 200 ∧ ∀ x ∈ L, x.num ≠ a 1) := fun q => by
      have := (fresh_eq S.rel (a 1) T).2 q; rw [hfr] at this; cases this
    refine ⟨false, 0, fun z => QO M A X w0 a s t l lv st (.slice oa body.length bc) wait b bm rb now next c f (a 2) T v L L B z, fun z hz => ⟨hz.arr, hz.box⟩, ?_, fun z hz => ?_⟩
    · refine REF.mono fun e w' ⟨Bo, v', L', q1, q2, q3, q4, q5⟩ => ?_
      rcases q5 with ⟨_, h1, h2, _⟩ | ⟨rfl, _, rfl, rfl⟩
      · exact absurd ⟨h1, hTf, h2⟩ hno
      · exact ⟨q1, S.q.ref hM q2 q3 q4⟩
    · refine (orderPush_ok z b now wait next (a 2) bm c f (a 1) T (Lib.hid hT) hc hl (by omega) (by omega) (hz.all S.rel) hTf (by rw [hz.cnt S.rel]; omega) s t l lv st (.slice oa body.length bc) body hp (fun W k => hyv W (hz.kb.trans (Keeps.below k (hz.size hM) (fun j hj e => by have := hz.low; rcases e with e | e <;> omega)))) hz.p).mono fun e w' ⟨oa8, c8, c', q1, q2, _, q4, q5⟩ => ?_
      rw [hfr] at q1
      rw [show Pl.keepF f (a 1) T (keptV (a 1) false s t l lv st (.slice oa8 body.length c8) (a 2)) = f from by unfold Pl.keepF; rw [hfr]; rfl] at q2
      exact ⟨by rw [q1, errV_nil], ⟨a 2, T, c', f, v, L, B, hz.prog hM q2 q5 (fun x hx => (hz.val x hx).keep (hz.keptP hM q5) (fun _ e => e) rfl) (fun j hj => .inl hj), relT, by omega, hcn⟩⟩
  | true =>
    obtain ⟨hf1, hf2, hf3⟩ := (fresh_eq S.rel (a 1) T).1 hfr
    obtain ⟨x, hx⟩ : ∃ x : KI, x = ⟨a 1, false, s, t, l, lv, st, oa, body.length, bc, a 2⟩ := ⟨_, rfl⟩
    refine ⟨true, 0, fun z => ∃ v', QO M A X w0 a s t l lv st (.slice oa body.length bc) wait b bm rb now next c f (a 2) T v' (L ++ [x]) L B z, fun z ⟨_, hz⟩ => ⟨hz.arr, hz.box⟩, ?_, fun z ⟨v', hz⟩ => ?_⟩
    · refine REF.mono fun e w' ⟨Bo, v', L', q1, q2, q3, q4, q5⟩ => ?_
      rcases q5 with ⟨rfl, _, _, rfl⟩ | ⟨_, h1 | ⟨y', hy, e⟩, _⟩
      · exact ⟨q1, v', by rw [hx]; exact S.q.ref hM q2 q3 q4⟩
      · exact absurd hf1 (by simp at h1; omega)
      · exact absurd e (hf3 y' hy)
    · refine (orderPush_ok z b now wait next (a 2) bm c f (a 1) T (Lib.hid hT) hc hl (by omega) (by omega) (hz.all S.rel) hTf (by rw [hz.cnt S.rel]; omega) s t l lv st (.slice oa body.length bc) body hp (fun W k => hyv W (hz.kb.trans (Keeps.below k (hz.size hM) (fun j hj e => by have := hz.low; rcases e with e | e <;> omega)))) hz.p).mono fun e w' ⟨oa8, c8, c', q1, q2, _, q4, q5⟩ => ?_
      rw [hfr] at q1
      rw [show Pl.keepF f (a 1) T (keptV (a 1) false s t l lv st (.slice oa8 body.length c8) (a 2)) = fun j => if j = x.num then some (keptV (a 1) false s t l lv st (.slice oa8 body.length c8) (a 2)) else f j from by unfold Pl.keepF; rw [hfr, hx]; rfl] at q2
      have fix := bytes_fix q4
      have hkb' := hz.kb.trans (Keeps.below q5 (hz.size hM) (fun j hj e => by have := hz.low; rcases e with e | e <;> omega))
      have hxn : x.num = a 1 := by rw [hx]
      have rel2 := S.rel.more x (keptV (a 1) false s t l lv st (.slice oa8 body.length c8) (a 2)) (by rw [hxn]; exact hT') (by rw [hxn]; exact hf1) (by rw [hxn]; exact hf2) (by rw [hxn]; omega) (by rw [hx]; exact hcn) (by rw [hxn]; exact hf3) hT0
      have hQ := hz.prog (Lv2 := L ++ [x]) (B2 := fun k => B k ∨ (z.heap.size ≤ k ∧ k < w'.heap.size)) hM q2 q5 (fun x' hx' => by
        rcases List.mem_append.1 hx' with hx' | hx'
        · refine (hz.val x' hx').keep (hz.keptP hM q5) (fun _ e => .inl e) ?_
          show (if x'.num = x.num then _ else _) = _
          rw [if_neg (by rw [hxn]; exact hf3 x' hx')]
        · obtain rfl : x' = x := by simpa using hx'
          refine ⟨oa8, c8, body, ?_, fix.1, ?_, hbody, fun a ha hne => .inr (fix.2 a ha hne), ?_⟩
          · show (if x'.num = x'.num then _ else _) = _
            rw [if_pos rfl, hx]
          · rw [hx]; exact hyv w' hkb'
          · rw [hx]; exact hoa) (fun j hj => hj)
      exact ⟨by rw [q1, errV_nil], ⟨a 2, T, c', _, v', L ++ [x], _, hQ, rel2, by simp; omega, hcn⟩⟩
/-- Gone: the program first -/
theorem oplays_gone (hM : M ≤ w0.heap.size) (hi : i ≤ 1000) {bv : Value} (h : StA M A X w0 a s t l lv st bv wait b bm rb i y) :
    ∃ (k : Int) (Q0 Q1 : World → Prop), Q0 y ∧ (∀ z, Q0 z → Q0 z.drew ∧ Arr3 z A a) ∧ (∀ z, Q1 z → Q1 z.drew ∧ Arr3 z A a) ∧
      (∀ z, Q0 z → Calls Tryd.prog 9 #[.pointer (some ⟨b, 0, none⟩), .int .i64 (a 1), .int .i64 (a 2)] z fun e w' => e = .returned (errV k) ∧ Q1 w') ∧
      ∀ z, Q1 z → Calls Tryd.prog 10 #[.pointer (some ⟨rb, 0, none⟩), .int .i64 (a 1), .int .i64 (a 2)] z fun e w' => e = .returned (.int .i64 k) ∧ StA M A X w0 a s t l lv st bv wait b bm rb (i + 1) w' := by
  obtain ⟨now, next, c, f, v, L, B, S⟩ := h
  have same : ∀ z, QO M A X w0 a s t l lv st bv wait b bm rb now next c f now next v L L B z → StA M A X w0 a s t l lv st bv wait b bm rb (i + 1) z := fun z hz => ⟨now, next, c, f, v, L, B, hz, S.rel, by have := S.len; omega, S.clk⟩
  have hnx := S.rel.nx
  have hL := S.len
  have quiet : ∀ (k : Int), k ≠ 0 → (Pl.oTime now (a 2) = k ∨ (Pl.oTime now (a 2) = 0 ∧ Pl.long (a 1) = false ∧ k = 1) ∨ (Pl.oTime now (a 2) = 0 ∧ Pl.long (a 1) = true ∧ next < 0 ∧ k = 6)) →
      ((¬ Pl.clockOk now (a 2) ∧ k = Pl.clockFault (a 2)) ∨ (Pl.clockOk now (a 2) ∧ Pl.long (a 1) = false ∧ k = 1) ∨ (Pl.clockOk now (a 2) ∧ Pl.long (a 1) = true ∧ next < 0 ∧ k = 6)) →
      ∃ (k : Int) (Q0 Q1 : World → Prop), Q0 y ∧ (∀ z, Q0 z → Q0 z.drew ∧ Arr3 z A a) ∧ (∀ z, Q1 z → Q1 z.drew ∧ Arr3 z A a) ∧
      (∀ z, Q0 z → Calls Tryd.prog 9 #[.pointer (some ⟨b, 0, none⟩), .int .i64 (a 1), .int .i64 (a 2)] z fun e w' => e = .returned (errV k) ∧ Q1 w') ∧
      ∀ z, Q1 z → Calls Tryd.prog 10 #[.pointer (some ⟨rb, 0, none⟩), .int .i64 (a 1), .int .i64 (a 2)] z fun e w' => e = .returned (.int .i64 k) ∧ StA M A X w0 a s t l lv st bv wait b bm rb (i + 1) w' := fun k hk h1 h2 =>
    ⟨k, QO M A X w0 a s t l lv st bv wait b bm rb now next c f now next v L L B, QO M A X w0 a s t l lv st bv wait b bm rb now next c f now next v L L B, S.q, fun z hz => ⟨hz.drewN 1, hz.arr⟩, fun z hz => ⟨hz.drewN 1, hz.arr⟩,
      fun z hz => (orderGone_bad b now wait next (a 2) bm (a 1) k h2 z hz.p.at_).mono fun e w' ⟨q1, q2⟩ => ⟨by rw [q1, errV_hit k hk], q2 ▸ hz⟩,
      fun z hz => (rGone_bad rb wait now next v (a 1) (a 2) k hk h1 z hz.r.at_).mono fun e w' ⟨q1, q2⟩ => ⟨q1, q2 ▸ same z hz⟩⟩
  by_cases hc : Pl.clockOk now (a 2)
  case neg => exact quiet _ (clockFault_ne _) (.inl (oTime_bad hc)) (.inl ⟨hc, rfl⟩)
  have hct := oTime_ok hc
  cases hl : Pl.long (a 1)
  · exact quiet 1 (by decide) (.inr (.inl ⟨hct, hl, rfl⟩)) (.inr (.inl ⟨hc, hl, rfl⟩))
  by_cases hn0 : next < 0
  · exact quiet 6 (by decide) (.inr (.inr ⟨hct, hl, hn0, rfl⟩)) (.inr (.inr ⟨hc, hl, hn0, rfl⟩))
  obtain ⟨hnum1, hnum2⟩ := (Pl.long_iff (a 1)).1 hl
  have hcn : 0 ≤ a 2 ∧ a 2 ≤ 1000000 := ⟨hc.1, hc.2.1⟩
  obtain ⟨x, hx⟩ : ∃ x : KI, x = ⟨a 1, true, 0, 0, 0, 0, false, none, 0, 0, a 2⟩ := ⟨_, rfl⟩
  have hxn : x.num = a 1 := by rw [hx]
  cases hfr : Pl.fresh f (a 1) next with
  | false =>
    have hno : ¬ (next ≤ a 1 ∧ a 1 < next + 200 ∧ ∀ x ∈ L, x.num ≠ a 1) := fun q => by
      have := (fresh_eq S.rel (a 1) next).2 q; rw [hfr] at this; cases this
    refine ⟨0, QO M A X w0 a s t l lv st bv wait b bm rb now next c f now next v L L B, fun z => ∃ c', QO M A X w0 a s t l lv st bv wait b bm rb (a 2) next c' f now next v L L B z, S.q, fun z hz => ⟨hz.drewN 1, hz.arr⟩, fun z ⟨c', hz⟩ => ⟨⟨c', hz.drewN 1⟩, hz.arr⟩, fun z hz => ?_, fun z ⟨c', hz⟩ => ?_⟩
    · refine (orderGone_ok b now wait next (a 2) bm c f (a 1) hc hl (by omega) (by omega) (hz.all S.rel) (by rw [hz.cnt S.rel]; omega) z hz.p).mono fun e w' ⟨c', q1, q2, _, q5⟩ => ?_
      rw [show Pl.keepF f (a 1) next (keptV (a 1) true 0 0 0 0 false (.slice none 0 0) (a 2)) = f from by unfold Pl.keepF; rw [hfr]; rfl] at q2
      exact ⟨by rw [q1, errV_nil], c', hz.prog hM q2 q5 (fun x hx => (hz.val x hx).keep (hz.keptP hM q5) (fun _ e => e) rfl) (fun j hj => .inl hj)⟩
    · refine (rGone_ok M rb wait now next v L (a 1) (a 2) hct hl (by omega) (by omega) (by omega) z (hz.size hM) hz.r).mono fun e w' ⟨v', L', q1, q2, q3, q4, q5⟩ => ?_
      rcases q5 with ⟨h1, _⟩ | ⟨_, rfl, rfl⟩
      · exact absurd h1 hno
      · exact ⟨q1, a 2, next, c', f, _, _, B, hz.ref hM q2 q3 q4, S.rel, by omega, hcn⟩
  | true =>
    have hyes := (fresh_eq S.rel (a 1) next).1 hfr
    obtain ⟨hf1, hf2, hf3⟩ := hyes
    have rel2 := S.rel.more (T := next) x (keptV (a 1) true 0 0 0 0 false (.slice none 0 0) (a 2)) (.inl rfl) (by rw [hxn]; exact hf1) (by rw [hxn]; exact hf2) (by rw [hxn]; omega) (by rw [hx]; exact hcn) (by rw [hxn]; exact hf3) (by omega)
    refine ⟨0, QO M A X w0 a s t l lv st bv wait b bm rb now next c f now next v L L B, fun z => ∃ c', QO M A X w0 a s t l lv st bv wait b bm rb (a 2) next c' (fun j => if j = x.num then some (keptV (a 1) true 0 0 0 0 false (.slice none 0 0) (a 2)) else f j) now next v L (L ++ [x]) B z, S.q, fun z hz => ⟨hz.drewN 1, hz.arr⟩, fun z ⟨c', hz⟩ => ⟨⟨c', hz.drewN 1⟩, hz.arr⟩, fun z hz => ?_, fun z ⟨c', hz⟩ => ?_⟩
    · refine (orderGone_ok b now wait next (a 2) bm c f (a 1) hc hl (by omega) (by omega) (hz.all S.rel) (by rw [hz.cnt S.rel]; omega) z hz.p).mono fun e w' ⟨c', q1, q2, _, q5⟩ => ?_
      rw [show Pl.keepF f (a 1) next (keptV (a 1) true 0 0 0 0 false (.slice none 0 0) (a 2)) = fun j => if j = x.num then some (keptV (a 1) true 0 0 0 0 false (.slice none 0 0) (a 2)) else f j from by unfold Pl.keepF; rw [hfr, hx]; rfl] at q2
      refine ⟨by rw [q1, errV_nil], c', hz.prog hM q2 q5 (fun x' hx' => ?_) (fun j hj => .inl hj)⟩
      rcases List.mem_append.1 hx' with hx' | hx'
      · refine (hz.val x' hx').keep (hz.keptP hM q5) (fun _ e => e) ?_
        show (if x'.num = x.num then _ else _) = _
        rw [if_neg (by rw [hxn]; exact hf3 x' hx')]
      · obtain rfl : x' = x := by simpa using hx'
        have nilB : ∀ W, IsBytes W (.slice none 0 0) ([] : List UInt8) := fun W => .inl ⟨rfl, none, 0, rfl, by simp, fun _ => rfl⟩
        refine ⟨none, 0, [], ?_, nilB _, ?_, by simp, fun a ha => (by cases ha), ?_⟩
        · show (if x'.num = x'.num then _ else _) = _
          rw [if_pos rfl, hx]; rfl
        · rw [hx]; exact nilB _
        · rw [hx]; intro a ha; cases ha
    · refine (rGone_ok M rb wait now next v L (a 1) (a 2) hct hl (by omega) (by omega) (by omega) z (hz.size hM) hz.r).mono fun e w' ⟨v', L', q1, q2, q3, q4, q5⟩ => ?_
      rcases q5 with ⟨_, rfl⟩ | ⟨h1, _⟩
      · rw [← hx] at q2
        exact ⟨q1, a 2, next, c', _, v', L ++ [x], B, hz.ref hM q2 q3 q4, rel2, by simp; omega, hcn⟩
      · exact absurd ⟨hf1, hf2, hf3⟩ h1
end
end Go.Proofs.YtlfdkoebjddokaaDoor
