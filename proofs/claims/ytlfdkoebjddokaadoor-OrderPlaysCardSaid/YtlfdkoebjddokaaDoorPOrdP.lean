import Derived.Test.YtlfdkoebjddokaaDoorPOrdS
/-! The steps of the law OrderPlays: Pop, Len. -/
namespace Go.Proofs.YtlfdkoebjddokaaDoor
open Go.RowKit
set_option linter.unusedVariables false
set_option linter.unusedSimpArgs false
theorem rows_items : ∀ (Lp : List (List Value)) (Q : Nat → Itm → Prop), (∀ (k : Nat) (x : List Value), Lp[k]? = some x → ∃ p : Itm, x = p.cells ∧ Q k p) → ∃ P : List Itm, Lp = P.map Itm.cells ∧ ∀ (k : Nat) (p : Itm), P[k]? = some p → Q k p
  | [], _, _ => ⟨[], rfl, fun k p h => by simp at h⟩
  | x :: r, Q, h => by
    obtain ⟨p, e, hp⟩ := h 0 x rfl
    obtain ⟨P, e2, hP⟩ := rows_items r (fun k => Q (k + 1)) (fun k x hx => h (k + 1) x (by simpa using hx))
    refine ⟨p :: P, by rw [e, e2]; rfl, fun k q hq => ?_⟩
    cases k with
    | zero => simp at hq; subst hq; exact hp
    | succ k => exact hP k q (by simpa using hq)
theorem cells_flat (P : List Itm) : (P.map Itm.cells).flatten = itemK.all P := by
  unfold RecK.all; rw [List.flatMap_def]; rfl
/-- a stop of the map's is one of the list's -/
theorem stop_of {M : Nat} {y : World} {B : Nat → Prop} {f : Int → Option Value} {L : List KI} {next now wait m : Int} (rel : PO f L next) (val : ∀ x ∈ L, KOk M y B f x) (h1 : f m = none) (h2 : ∀ (i : Int) (num : Int) (gone : Bool) (s t l lv : Int) (st : Bool) (oa : Option Addr) (bn bc : Nat) (at' : Int), m ≤ i → f i = some (keptV num gone s t l lv st (.slice oa bn bc) at') → now - at' < wait) : StopK L now wait m := by
  refine ⟨fun x hx e => ?_, fun x hx e => ?_⟩
  · have := (rel.dom m).2 (List.mem_map.2 ⟨x, hx, e⟩)
    rw [h1] at this; cases this
  · obtain ⟨oa, bc, body, q, _⟩ := val x hx
    exact h2 _ _ _ _ _ _ _ _ _ _ _ _ e q
theorem pops_walk {M : Nat} {y : World} {B : Nat → Prop} {f0 f : Int → Option Value} {L : List KI} {n0 nx now wait : Int} {Lp : List (List Value)} (rel : PO f0 L n0) (val : ∀ x ∈ L, KOk M y B f0 x) (h : Pops now wait f0 n0 Lp f nx) : ∀ m, n0 ≤ m → m < nx → ¬ StopK L now wait m := by
  induction h with
  | nil => intro m h1 h2; omega
  | @has Lp f nx num gone s t l lv st oa bn bc at' hp hf ih =>
    intro m h1 h2 hs
    by_cases e : m = nx
    · subst e
      obtain ⟨e1, e2, _⟩ := hp.spec
      have q := e2 m
      rw [if_neg (by omega), hf] at q
      obtain ⟨x, hx, ex⟩ := List.mem_map.1 ((rel.dom m).1 (by rw [← q]; rfl))
      exact hs.1 x hx ex
    · exact ih m h1 (by omega) hs
  | @gone Lp f nx hp hf hW ih =>
    intro m h1 h2 hs
    by_cases e : m = nx
    · subst e
      obtain ⟨e1, e2, _⟩ := hp.spec
      obtain ⟨i, num, gone, s, t, l, lv, st, oa, bn, bc, at', g1, g2⟩ := hW
      have q := e2 i
      rw [g1] at q
      have hno : ¬ (n0 ≤ i ∧ i < m) := fun h => by rw [if_pos h] at q; cases q
      rw [if_neg hno] at q
      obtain ⟨x, hx, rfl⟩ := List.mem_map.1 ((rel.dom i).1 (by rw [← q]; rfl))
      have hr := rel.rng x hx
      obtain ⟨oa', bc', body, q', _⟩ := val x hx
      rw [← q] at q'
      have ha : at' = x.at_ := by simp at q'; exact q'.2.2.2.2.2.2.2.2
      have := hs.2 x hx (by omega)
      omega
    · exact ih m h1 (by omega) hs
theorem stop_bound {f : Int → Option Value} {L : List KI} {next nx now wait : Int} (rel : PO f L next) (hle : next ≤ nx) (hmin : ∀ m, next ≤ m → m < nx → ¬ StopK L now wait m) : nx ≤ 1099511627777 ∧ (nx = next ∨ L ≠ []) := by
  by_cases e : nx = next
  · have := rel.nx; exact ⟨by omega, .inl e⟩
  · have hs := hmin (nx - 1) (by omega) (by omega)
    have hL : ∃ x ∈ L, nx - 1 ≤ x.num := by
      refine Classical.byContradiction (fun hn => hs ⟨fun x hx ex => hn ⟨x, hx, by omega⟩, fun x hx ex => absurd ⟨x, hx, ex⟩ hn⟩)
    obtain ⟨x, hx, h⟩ := hL
    have := rel.rng x hx
    exact ⟨by omega, .inr (fun e => by rw [e] at hx; cases hx)⟩
theorem PO.left {f f' : Int → Option Value} {L : List KI} {next nx : Int} (rel : PO f L next) (hle : next ≤ nx) (hnx : nx ≤ 1099511627777 ∧ (nx = next ∨ L ≠ [])) (hf : ∀ j, f' j = if next ≤ j ∧ j < nx then none else f j) : PO f' (leftK L nx) nx := by
  refine ⟨rel.uni.sublist (List.Sublist.map _ List.filter_sublist), fun j => ?_, fun x hx => ?_, ?_, fun e => ?_⟩
  · rw [hf j, List.mem_map]
    by_cases e : next ≤ j ∧ j < nx
    · rw [if_pos e]
      constructor
      · intro q; cases q
      · rintro ⟨x, hx, rfl⟩
        have := (leftK_mem.1 hx).2; omega
    · rw [if_neg e, rel.dom j, List.mem_map]
      constructor
      · rintro ⟨x, hx, rfl⟩
        have := rel.rng x hx
        exact ⟨x, leftK_mem.2 ⟨hx, by omega⟩, rfl⟩
      · rintro ⟨x, hx, rfl⟩
        exact ⟨x, (leftK_mem.1 hx).1, rfl⟩
  · obtain ⟨h1, h2⟩ := leftK_mem.1 hx
    have := rel.rng x h1
    omega
  · have := rel.nx; omega
  · have := rel.emp (by omega)
    rw [this]; rfl
section
variable {M A X : Nat} {w0 : World} {a : Nat → Int} {s t l lv : Int} {st : Bool} {bv : Value} {wait : Int} {b bm rb i : Nat} {y : World}
set_option maxHeartbeats 1000000 in
theorem oplays_pop (hM : M ≤ w0.heap.size) (hi : i ≤ 1000) (hw : 0 ≤ wait ∧ wait ≤ 1000000) (h : StA M A X w0 a s t l lv st bv wait b bm rb i y) :
    ∃ (k : Int) (Q1 : Value → World → Prop) (Q2 : Value → Value → World → Prop), (∀ v2 z, Q1 v2 z → Arr3 z A a) ∧ (∀ v1 v2 z, Q2 v1 v2 z → Below M w0 z) ∧ (∀ v1 v2 z z', Q2 v1 v2 z → Below z.heap.size z z' → Q2 v1 v2 z') ∧
      (Calls Tryd.prog 11 #[.pointer (some ⟨rb, 0, none⟩), .int .i64 (a 2)] y fun e w' => ∃ v2, e = .returned (.tuple #[v2, .int .i64 k]) ∧ Q1 v2 w') ∧
      (∀ v2 z, Q1 v2 z → Calls Tryd.prog 12 #[.pointer (some ⟨b, 0, none⟩), .int .i64 (a 2)] z fun e w' => ∃ v1, e = .returned (.tuple #[v1, errV k]) ∧ Q2 v1 v2 w') ∧
      ∀ v1 v2 z, Q2 v1 v2 z → Calls Tryd.prog 13 #[v1, v2] z fun e w' => e = .returned (.bool true) ∧ StA M A X w0 a s t l lv st bv wait b bm rb (i + 1) w' := by
  obtain ⟨now, next, c, f, v, L, B, S⟩ := h
  have hnx := S.rel.nx
  have hL := S.len
  by_cases hc : Pl.clockOk now (a 2)
  case neg =>
    have same : ∀ z, QO M A X w0 a s t l lv st bv wait b bm rb now next c f now next v L L B z → StA M A X w0 a s t l lv st bv wait b bm rb (i + 1) z := fun z hz => ⟨now, next, c, f, v, L, B, hz, S.rel, by have := S.len; omega, S.clk⟩
    refine ⟨Pl.clockFault (a 2), fun v2 z => v2 = .slice none 0 0 ∧ QO M A X w0 a s t l lv st bv wait b bm rb now next c f now next v L L B z, fun v1 v2 z => v1 = .slice none 0 0 ∧ v2 = .slice none 0 0 ∧ QO M A X w0 a s t l lv st bv wait b bm rb now next c f now next v L L B z, fun v2 z hz => hz.2.arr, fun v1 v2 z hz => hz.2.2.kb, fun v1 v2 z z' hz k => ⟨hz.1, hz.2.1, hz.2.2.below hM k⟩, ?_, fun v2 z hz => ?_, fun v1 v2 z hz => ?_⟩
    · have hgt := oTime_bad hc
      have := rPop_bad rb wait now next v (a 2) (by rw [hgt]; exact clockFault_ne _) y S.q.r.at_
      rw [hgt] at this
      exact this.mono fun e w' ⟨h1, h2⟩ => ⟨_, h1, rfl, h2 ▸ S.q⟩
    · exact (orderPop_bad b now wait next (a 2) bm hc z hz.2.p.at_).mono fun e w' ⟨h1, h2⟩ => ⟨_, by rw [h1, errV_hit _ (clockFault_ne _)], rfl, hz.1, h2 ▸ hz.2⟩
    · obtain ⟨rfl, rfl, hz⟩ := hz
      refine (sameItems_eq M M _ _ [] [] (by simp) rfl z (RecK.Own.nil _ _) (RecK.Own.nil _ _) (fun k x y hx => by simp at hx)).mono fun e w' ⟨h1, h2⟩ => ⟨h1, same _ (hz.below hM h2)⟩
  have hct := oTime_ok hc
  have hcn : 0 ≤ a 2 ∧ a 2 ≤ 1000000 := ⟨hc.1, hc.2.1⟩
  refine ⟨0, fun v2 z => ∃ (v' : Value) (nx : Int), next ≤ nx ∧ StopK L (a 2) wait nx ∧ (∀ m, next ≤ m → m < nx → ¬ StopK L (a 2) wait m) ∧ (∀ j, v2.ownBlock = some j → y.heap.size ≤ j) ∧ (b < y.heap.size ∧ bm < y.heap.size) ∧ QO M A X w0 a s t l lv st bv wait b bm rb now next c f (a 2) nx v' (leftK L nx) L B z ∧ ∃ M2, itemK.Own z M2 v2 (popI L next (nx - next).toNat),
    fun v1 v2 z => ∃ (v' : Value) (nx : Int) (c' : Nat) (f' : Int → Option Value) (P : List Itm) (M1 M2 : Nat), next ≤ nx ∧ (nx ≤ 1099511627777 ∧ (nx = next ∨ L ≠ [])) ∧ (∀ j, f' j = if next ≤ j ∧ j < nx then none else f j) ∧ QO M A X w0 a s t l lv st bv wait b bm rb (a 2) nx c' f' (a 2) nx v' (leftK L nx) (leftK L nx) B z ∧ P.length = (nx - next).toNat ∧ P.length ≤ 1000 ∧ itemK.Own z M1 v1 P ∧ itemK.Own z M2 v2 (popI L next (nx - next).toNat) ∧ ∀ (k : Nat) (p : Itm), P[k]? = some p → ItmSame z p (outI L (next + k)),
    fun v2 z ⟨_, _, _, _, _, _, _, hz, _⟩ => hz.arr, fun v1 v2 z ⟨_, _, _, _, _, _, _, _, _, _, hz, _⟩ => hz.kb, fun v1 v2 z z' ⟨v', nx, c', f', P, M1, M2, i1, i2, i3, hz, i4, i5, i6, i7, i8⟩ k => ⟨v', nx, c', f', P, M1, M2, i1, i2, i3, hz.below hM k, i4, i5, i6.below k, i7.below k, fun j p hp => ?_⟩, ?_, fun v2 z ⟨v', nx, i1, i2, i3, i4, i5, hz, M2, i6⟩ => ?_, fun v1 v2 z ⟨v', nx, c', f', P, M1, M2, i1, i2, i3, hz, i4, i5, i6, i7, i8⟩ => ?_⟩
  · obtain ⟨e1, e2, e3, e4, e5, e6, e7, body, b1, b2⟩ := i8 j p hp
    exact ⟨e1, e2, e3, e4, e5, e6, e7, body, Sl.below b1 k, Sl.below b2 k⟩
  · refine (rPop_ok M rb wait now next (a 2) (next + 200) v L hct hcn hw hnx.1 (by omega) (by omega) S.rel.uni (fun x hx => by have := S.rel.rng x hx; omega) y (S.q.size hM) S.q.r).mono fun e w' ⟨vO, v', nx, q1, q2, q3, q4, q5, q6, q7, q8⟩ => ?_
    exact ⟨vO, q1, v', nx, q2, q7, q8, fun j hj => (q4.lt j hj).1, ⟨lt_of_block S.q.p.at_, S.q.p.map.lt⟩, S.q.ref hM q3 q5 q6, _, q4⟩
  · have hbnd := stop_bound S.rel i1 i3
    have hkeys : ∀ j, (f j).isSome = true → next ≤ j ∧ j < next + 200 := fun j hj => by
      obtain ⟨x, hx, rfl⟩ := List.mem_map.1 ((S.rel.dom j).1 hj)
      have := S.rel.rng x hx; omega
    refine (orderPop_any b now wait next (a 2) bm c f (next + 200) (hz.all S.rel) hkeys (by omega) (by omega) (by omega) (by omega) hc z hz.p).mono fun e w' ⟨Lp, f', nxp, c', v1, q1, q2, q3, q4, q5, q6, _, q7⟩ => ?_
    obtain ⟨e1, e2, e3⟩ := q2.spec
    have hst : StopK L (a 2) wait nxp := stop_of (M := M) (y := z) (B := B) S.rel hz.val (by have := e2 nxp; rw [if_neg (by omega), q3] at this; exact this.symm) (fun i num gone s t l lv st oa bn bc at' hi hf => by
      rcases Int.lt_or_le (a 2 - at') wait with h | h
      · exact h
      · exact absurd ⟨i, num, gone, s, t, l, lv, st, oa, bn, bc, at', by rw [e2 i, if_neg (by omega)]; exact hf, h⟩ q4)
    have hwk := pops_walk S.rel hz.val q2
    have hnn : nxp = nx := by
      rcases Int.lt_trichotomy nxp nx with h | h | h
      · exact absurd hst (i3 nxp (by omega) h)
      · exact h
      · exact absurd i2 (hwk nx i1 h)
    subst hnn
    have hQ := hz.prog (Lv2 := leftK L nxp) (B2 := B) hM q6 q7 (fun x hx => by
      obtain ⟨h1, h2⟩ := leftK_mem.1 hx
      exact (hz.val x h1).keep (hz.keptP hM q7) (fun _ e => e) (by rw [e2 x.num, if_neg (by omega)])) (fun j hj => .inl hj)
    have kept := hz.keptP hM q7
    obtain ⟨P, hP, hPs⟩ := rows_items Lp (fun k p => ItmSame w' p (outI L (next + k))) (fun k xr hxr => by
      have hx' := e3 k xr hxr
      rcases hx' with ⟨h1, rfl⟩ | ⟨num, gone, s, t, l, lv, st, oa, bn, bc, at', h1, rfl⟩
      · have ho : outI L (next + k) = goneI (next + k) := outI_none (fun x hx e => by
          have := (S.rel.dom (next + k)).2 (List.mem_map.2 ⟨x, hx, e⟩)
          rw [h1] at this; cases this)
        refine ⟨goneI (next + k), rfl, ?_⟩
        rw [ho]
        have nilB : IsBytes w' (.slice none 0 0) ([] : List UInt8) := .inl ⟨rfl, none, 0, rfl, by simp, fun _ => rfl⟩
        exact ⟨rfl, rfl, rfl, rfl, rfl, rfl, rfl, [], nilB, nilB⟩
      · obtain ⟨x, hx, ex⟩ := List.mem_map.1 ((S.rel.dom (next + k)).1 (by rw [h1]; rfl))
        obtain ⟨oa', bc', body, g1, g2, g3, _, g5, g6⟩ := hz.val x hx
        rw [ex, h1] at g1
        simp at g1
        obtain ⟨rfl, rfl, rfl, rfl, rfl, rfl, rfl, ⟨rfl, rfl, rfl⟩, rfl⟩ := g1
        refine ⟨⟨x.num, x.gone, x.s, x.t, x.l, x.lv, x.st, oa, body.length, bc⟩, by rw [ex]; rfl, ?_⟩
        rw [← ex, outI_some S.rel.uni hx]
        exact ⟨rfl, rfl, rfl, rfl, rfl, rfl, rfl, body, bytes_keep g2 g5 (fun j hj => kept j (.inl hj)), show IsBytes w' (.slice x.oa x.bn x.bc) body from bytes_keep g3 g6 (fun j hj => kept j (.inr hj))⟩)
    have hPl : P.length = Lp.length := by rw [hP, List.length_map]
    have hlast : nxp ≤ next + 200 := by
      rcases hbnd.2 with e | e
      · omega
      · refine Classical.byContradiction (fun hn => ?_)
        have := hwk (next + 200) (by omega) (by omega)
        exact this ⟨fun x hx ex => by have := S.rel.rng x hx; omega, fun x hx ex => by have := S.rel.rng x hx; omega⟩
    refine ⟨v1, by rw [q1, errV_nil], v', nxp, c', f', P, z.heap.size, M2, i1, hbnd, e2, hQ, by omega, by omega, ?_, ?_, hPs⟩
    · have q5' := q5
      rw [hP, cells_flat, List.length_map] at q5'
      exact q5'
    · refine i6.keep (fun j hj _ hl => q7.block j hl (fun e => ?_))
      have := i4 j hj
      rcases e with e | e <;> omega
  · have hpl := popI_len L next (nx - next).toNat
    refine (sameItems_eq M1 M2 v1 v2 P (popI L next (nx - next).toNat) (by omega) (by omega) z i6 i7 (fun k x y' hx hy => ?_)).mono fun e w' ⟨h1, h2⟩ => ⟨h1, ?_⟩
    · have hk : k < P.length := (List.getElem?_eq_some_iff.1 hx).1
      rw [popI_get L next _ k (by omega)] at hy
      cases hy
      exact i8 k x hx
    · exact ⟨a 2, nx, c', f', v', leftK L nx, B, hz.below hM h2, S.rel.left i1 i2 i3, by have := leftK_len L nx; omega, hcn⟩
/-- how many are kept -/
theorem oplays_len (hM : M ≤ w0.heap.size) (hi : i ≤ 1000) (h : StA M A X w0 a s t l lv st bv wait b bm rb i y) :
    ∃ (oa : Option Addr) (n cap : Nat), y.cell? ⟨rb, 3, none⟩ = some (.slice oa n cap) ∧ ∀ m, Calls Tryd.prog 14 #[.pointer (some ⟨b, 0, none⟩)] (y.drewN m) (fun e w' => e = .returned (.int .i64 n) ∧ y.drewN m = w') := by
  obtain ⟨now, next, c, f, v, L, B, S⟩ := h
  obtain ⟨oa, cap, e, _⟩ := S.q.r.row.read keptK_ok
  subst e
  have hc := S.q.cnt S.rel
  exact ⟨oa, L.length, cap, obj_cell S.q.r.at_ rfl, fun m => by rw [← hc]; exact orderLen_any b now wait next bm c f _ (S.q.drewN m).p.at_ (S.q.drewN m).p.map⟩
theorem StA.below {M A X : Nat} {w0 : World} {a : Nat → Int} {s t l lv : Int} {st : Bool} {bv : Value} {wait : Int} {b bm rb i : Nat} {y y' : World} (h : StA M A X w0 a s t l lv st bv wait b bm rb i y) (hM : M ≤ w0.heap.size) (k : Below y.heap.size y y') : StA M A X w0 a s t l lv st bv wait b bm rb i y' := by
  obtain ⟨now, next, c, f, v, L, B, S⟩ := h
  exact ⟨now, next, c, f, v, L, B, S.q.below hM k, S.rel, S.len, S.clk⟩
theorem StA.drewN {M A X : Nat} {w0 : World} {a : Nat → Int} {s t l lv : Int} {st : Bool} {bv : Value} {wait : Int} {b bm rb i : Nat} {y : World} (h : StA M A X w0 a s t l lv st bv wait b bm rb i y) (n : Nat) : StA M A X w0 a s t l lv st bv wait b bm rb i (y.drewN n) := by
  obtain ⟨now, next, c, f, v, L, B, S⟩ := h
  exact ⟨now, next, c, f, v, L, B, S.q.drewN n, S.rel, S.len, S.clk⟩
theorem StA.kb {M A X : Nat} {w0 : World} {a : Nat → Int} {s t l lv : Int} {st : Bool} {bv : Value} {wait : Int} {b bm rb i : Nat} {y : World} (h : StA M A X w0 a s t l lv st bv wait b bm rb i y) : Below M w0 y := by
  obtain ⟨now, next, c, f, v, L, B, S⟩ := h
  exact S.q.kb
theorem StA.arr {M A X : Nat} {w0 : World} {a : Nat → Int} {s t l lv : Int} {st : Bool} {bv : Value} {wait : Int} {b bm rb i : Nat} {y : World} (h : StA M A X w0 a s t l lv st bv wait b bm rb i y) : Arr3 y A a := by
  obtain ⟨now, next, c, f, v, L, B, S⟩ := h
  exact S.q.arr
theorem StA.box {M A X : Nat} {w0 : World} {a : Nat → Int} {s t l lv : Int} {st : Bool} {bv : Value} {wait : Int} {b bm rb i : Nat} {y : World} (h : StA M A X w0 a s t l lv st bv wait b bm rb i y) : PkIn y X s t l lv st bv := by
  obtain ⟨now, next, c, f, v, L, B, S⟩ := h
  exact S.q.box
end
/-- the state without a step's array and packet -/
def StN (M : Nat) (w0 : World) (wait : Int) (b bm rb i : Nat) (y : World) : Prop := ∀ (A X : Nat) (a : Nat → Int) (s t l lv : Int) (st : Bool) (bv : Value) (z : World), Below y.heap.size y z → Arr3 z A a → PkIn z X s t l lv st bv → StA M A X w0 a s t l lv st bv wait b bm rb i z
theorem StA.free {M A X : Nat} {w0 : World} {a : Nat → Int} {s t l lv : Int} {st : Bool} {bv : Value} {wait : Int} {b bm rb i : Nat} {y : World} (h : StA M A X w0 a s t l lv st bv wait b bm rb i y) (hM : M ≤ w0.heap.size) : StN M w0 wait b bm rb i y := by
  intro A' X' a' s' t' l' lv' st' bv' z k ha hx
  obtain ⟨now, next, c, f, v, L, B, S⟩ := h.below hM k
  exact ⟨now, next, c, f, v, L, B, ⟨S.q.p, S.q.r, ha, hx, S.q.val, S.q.low, S.q.sep, S.q.kb⟩, S.rel, S.len, S.clk⟩
theorem StN.start {M : Nat} {w0 : World} (hM : M ≤ w0.heap.size) {wait : Int} {b bm rb : Nat} {y : World} (p : Ord y b 0 wait (-1) bm 0 (fun _ => none)) (r : ROrd M y rb wait 0 (-1) (.slice none 0 0) []) (low : M ≤ b ∧ M ≤ bm) (kb : Below M w0 y) : StN M w0 wait b bm rb 0 y := by
  intro A X a s t l lv st bv z k ha hx
  refine ⟨0, -1, 0, fun _ => none, .slice none 0 0, [], fun _ => False, ⟨p.below k, r.below k, ha, hx, fun x hx => (by cases hx), low, fun _ h => h.elim, kb.trans (k.mono (Nat.le_trans hM kb.size))⟩, ⟨by simp, by simp, fun x hx => (by cases hx), by omega, fun _ => rfl⟩, by simp, by omega⟩
theorem StN.below {M : Nat} {w0 : World} {wait : Int} {b bm rb i : Nat} {y y' : World} (h : StN M w0 wait b bm rb i y) (k : Below y.heap.size y y') : StN M w0 wait b bm rb i y' :=
  fun A X a s t l lv st bv z k2 ha hx => h A X a s t l lv st bv z (k.trans (k2.mono k.size)) ha hx
end Go.Proofs.YtlfdkoebjddokaaDoor
