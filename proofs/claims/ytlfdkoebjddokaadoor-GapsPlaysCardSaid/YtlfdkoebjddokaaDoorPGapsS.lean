import Derived.Test.YtlfdkoebjddokaaDoorPGaps
import Derived.Test.YtlfdkoebjddokaaDoorErrV
/-! The steps of the law GapsPlays, both objects side by side. -/
namespace Go.Proofs.YtlfdkoebjddokaaDoor
open Go.RowKit
set_option linter.unusedVariables false
set_option linter.unusedSimpArgs false
/-- an array of three ints -/
def Arr3 (w : World) (A : Nat) (a : Nat → Int) : Prop := w.heap[A]? = some (.cells #[.int .i64 (a 0), .int .i64 (a 1), .int .i64 (a 2)] 34 (0, 0))
namespace Arr3
variable {w : World} {A : Nat} {a : Nat → Int}
theorem cell (h : Arr3 w A a) (k : Nat) (hk : k < 3) : w.cell? ⟨A, k, none⟩ = some (.int .i64 (a k)) := by
  have : k = 0 ∨ k = 1 ∨ k = 2 := by omega
  rcases this with rfl | rfl | rfl <;> exact obj_cell h rfl
theorem set (h : Arr3 w A a) (k : Nat) (hk : k < 3) (x : Int) : Arr3 (w.setCell ⟨A, k, none⟩ (.int .i64 x)) A (fun j => if j = k then x else a j) := by
  unfold Arr3 at *; rw [obj_set h]
  have : k = 0 ∨ k = 1 ∨ k = 2 := by omega
  rcases this with rfl | rfl | rfl <;> rfl
end Arr3
/-- no map is a block of cells -/
theorem MapAt.ne_cells {P : Program} {k : TypeId} {w : World} {b c : Nat} {f : Int → Option Value} (h : MapAt P k w b c f) (cs : Array Value) (T : TypeId) (fz : Nat × Nat) : w.heap[b]? ≠ some (.cells cs T fz) := by
  obtain ⟨D, hown, _⟩ := h
  obtain ⟨es, clock, hb, _⟩ := hown
  rw [hb]; simp
theorem intRow_keepOf {w w' : World} {M : Nat} {v : Value} {A : List Int} (h : w.ownsRow M 3 1 v A.length (A.map encI)) (hk : ∀ g, v.ownBlock = some g → g < w.heap.size → w'.heap[g]? = w.heap[g]?) : w'.ownsRow M 3 1 v A.length (A.map encI) :=
  intK_row.1 ((intK_row.2 h).keep (fun g hg _ hl => hk g hg hl))
structure QG (M A : Nat) (w0 : World) (a : Nat → Int) (again tries : Int) (b bm rb : Nat) (now top : Int) (c : Nat) (g : Int → Option (Int × Int)) (gv : Value) (G : List Int) (now' top' : Int) (v : Value) (L : List Lk) (rgv : Value) (G' : List Int) (y : World) : Prop where
  p : Gp M y b now again tries top bm c g gv G
  r : RGp M y rb now' again tries top' v L rgv G'
  ap : ApartV gv rgv
  arr : Arr3 y A a
  kb : Below M w0 y
namespace QG
variable {M A : Nat} {w0 : World} {a : Nat → Int} {again tries : Int} {b bm rb : Nat} {now top : Int} {c : Nat} {g : Int → Option (Int × Int)} {gv : Value} {G : List Int} {now' top' : Int} {v : Value} {L : List Lk} {rgv : Value} {G' : List Int} {y y' : World}
theorem size (h : QG M A w0 a again tries b bm rb now top c g gv G now' top' v L rgv G' y) (hM : M ≤ w0.heap.size) : M ≤ y.heap.size := Nat.le_trans hM h.kb.size
theorem drewN (h : QG M A w0 a again tries b bm rb now top c g gv G now' top' v L rgv G' y) (n : Nat) : QG M A w0 a again tries b bm rb now top c g gv G now' top' v L rgv G' (y.drewN n) :=
  ⟨h.p.drewN n, h.r.drewN n, h.ap, by exact h.arr, Below.drewN h.kb n⟩
theorem below (h : QG M A w0 a again tries b bm rb now top c g gv G now' top' v L rgv G' y) (hM : M ≤ w0.heap.size) (k : Below y.heap.size y y') : QG M A w0 a again tries b bm rb now top c g gv G now' top' v L rgv G' y' :=
  ⟨h.p.below k, h.r.below k, h.ap, Below.heapAt k h.arr (lt_of_block h.arr), h.kb.trans (k.mono (h.size hM))⟩
theorem intRow_kind {M n : Nat} {w : World} {u : Value} {xs : List Value} (h : w.ownsRow M 3 1 u n xs) {j : Nat} (e : u.ownBlock = some j) : ∃ cs, w.heap[j]? = some (.cells cs 3 (0, 0)) := by
  rcases h.2 with ⟨rfl, _⟩ | ⟨g', cap, cur, rfl, hb, hg', _⟩
  · cases e
  · simp [Value.ownBlock] at e; subst e; exact ⟨_, hg'⟩
theorem lack_kind {M : Nat} {w : World} {u : Value} {L : List Lk} (h : lackK.Own w M u L) {j : Nat} (e : u.ownBlock = some j) : ∃ cs, w.heap[j]? = some (.cells cs 97 (0, 0)) := by
  rcases h.2 with ⟨rfl, _⟩ | ⟨g', cap, cur, rfl, hb, hg', _⟩
  · cases e
  · simp [Value.ownBlock] at e; subst e; exact ⟨_, hg'⟩
/-- the program's object has turned -/
theorem prog {now2 top2 : Int} {c2 : Nat} {g2 : Int → Option (Int × Int)} {gv2 : Value} {G2 : List Int} (h : QG M A w0 a again tries b bm rb now top c g gv G now' top' v L rgv G' y) (hM : M ≤ w0.heap.size) (p : Gp M y' b now2 again tries top2 bm c2 g2 gv2 G2) (k : FG b bm gv y y') (hv : ∀ j, gv2.ownBlock = some j → gv.ownBlock = some j ∨ y.heap.size ≤ j) : QG M A w0 a again tries b bm rb now2 top2 c2 g2 gv2 G2 now' top' v L rgv G' y' := by
  have ne : ∀ (j : Nat) (cs : Array Value) (T : TypeId), (j = b ∨ j = bm ∨ gv.ownBlock = some j) → T ≠ 95 → T ≠ 3 → y.heap[j]? ≠ some (.cells cs T (0, 0)) := fun j cs T hj hT hT2 e => by
    rcases hj with rfl | rfl | hj
    · have a := h.p.at_
      unfold GapsAt at a
      rw [a] at e; simp at e; exact hT e.2.symm
    · exact h.p.map.ne_cells _ _ _ e
    · obtain ⟨cs', e'⟩ := intRow_kind h.p.row hj
      rw [e'] at e; simp at e; exact hT2 e.2.symm
  have row : ∀ j, rgv.ownBlock = some j → ¬ (j = b ∨ j = bm ∨ gv.ownBlock = some j) := fun j hj q => by
    obtain ⟨cs', e'⟩ := intRow_kind h.r.gave hj
    rcases q with rfl | rfl | q
    · have a := h.p.at_
      unfold GapsAt at a
      rw [a] at e'; simp at e'
    · exact h.p.map.ne_cells _ _ _ e'
    · exact h.ap j q hj
  refine ⟨p, ⟨Keeps.heap k h.r.at_ (fun e => ne rb _ _ e (by decide) (by decide) h.r.at_), h.r.row.keep (fun j hj _ hl => k.block j hl (fun e => ?_)), ?_, h.r.low⟩, ApartV.more h.ap h.r.gave hv, Keeps.heap k h.arr (fun e => ne A _ _ e (by decide) (by decide) h.arr), h.kb.trans (FG.below k h.p (h.size hM))⟩
  · obtain ⟨cs', e'⟩ := lack_kind h.r.row hj
    exact ne j _ _ e (by decide) (by decide) e'
  · refine intRow_keepOf h.r.gave (fun j hj hl => k.block j hl (row j hj))
/-- the reference's has -/
theorem ref {now2 top2 : Int} {v2 : Value} {L2 : List Lk} {rgv2 : Value} {G2 : List Int} (h : QG M A w0 a again tries b bm rb now top c g gv G now' top' v L rgv G' y) (hM : M ≤ w0.heap.size) (r : RGp M y' rb now2 again tries top2 v2 L2 rgv2 G2) (k : RGFP rb v rgv y y') (hv : ∀ j, rgv2.ownBlock = some j → rgv.ownBlock = some j ∨ y.heap.size ≤ j) : QG M A w0 a again tries b bm rb now top c g gv G now2 top2 v2 L2 rgv2 G2 y' := by
  have ne : ∀ (j : Nat) (cs : Array Value) (T : TypeId), (j = rb ∨ v.ownBlock = some j ∨ rgv.ownBlock = some j) → T ≠ 59 → T ≠ 3 → T ≠ 97 → y.heap[j]? ≠ some (.cells cs T (0, 0)) := fun j cs T hj hT hT2 hT3 e => by
    rcases hj with rfl | hj | hj
    · have a := h.r.at_
      unfold RGapsAt at a
      rw [a] at e; simp at e; exact hT e.2.symm
    · obtain ⟨cs', e'⟩ := lack_kind h.r.row hj
      rw [e'] at e; simp at e; exact hT3 e.2.symm
    · obtain ⟨cs', e'⟩ := intRow_kind h.r.gave hj
      rw [e'] at e; simp at e; exact hT2 e.2.symm
  have mp : ¬ (bm = rb ∨ v.ownBlock = some bm ∨ rgv.ownBlock = some bm) := fun hj => by
    rcases hj with rfl | hj | hj
    · exact h.p.map.ne_cells _ _ _ h.r.at_
    · obtain ⟨cs', e'⟩ := lack_kind h.r.row hj
      exact h.p.map.ne_cells _ _ _ e'
    · obtain ⟨cs', e'⟩ := intRow_kind h.r.gave hj
      exact h.p.map.ne_cells _ _ _ e'
  have row : ∀ j, gv.ownBlock = some j → ¬ (j = rb ∨ v.ownBlock = some j ∨ rgv.ownBlock = some j) := fun j hj q => by
    obtain ⟨cs', e'⟩ := intRow_kind h.p.row hj
    rcases q with rfl | q | q
    · have a := h.r.at_
      unfold RGapsAt at a
      rw [a] at e'; simp at e'
    · obtain ⟨cs2, e2⟩ := lack_kind h.r.row q
      rw [e2] at e'; simp at e'
    · exact h.ap j hj q
  refine ⟨⟨Keeps.heap k h.p.at_ (fun e => ne b _ _ e (by decide) (by decide) (by decide) h.p.at_), h.p.map.block (k.block bm h.p.map.lt mp), h.p.ne, intRow_keepOf h.p.row (fun j hj hl => k.block j hl (row j hj)), h.p.low⟩, r, (ApartV.more h.ap.symm h.p.row hv).symm, Keeps.heap k h.arr (fun e => ne A _ _ e (by decide) (by decide) (by decide) h.arr), h.kb.trans (Keeps.below k (h.size hM) (fun j hj e => ?_))⟩
  rcases e with rfl | e | e
  · have := h.r.low; omega
  · have := (h.r.row.lt j e).1; omega
  · have := (h.r.gave.lt j e).1; omega
end QG
/-- what holds between the steps -/
structure StG (M : Nat) (w0 : World) (again tries : Int) (b bm rb i : Nat) (now top : Int) (c : Nat) (g : Int → Option (Int × Int)) (gv : Value) (G : List Int) (v : Value) (L : List Lk) (rgv : Value) (y : World) : Prop where
  p : Gp M y b now again tries top bm c g gv G
  r : RGp M y rb now again tries top v L rgv G
  ap : ApartV gv rgv
  rel : PG g L tries top G
  clk : 0 ≤ now ∧ now ≤ 1000000
  glen : G.length ≤ 200 * i
  kb : Below M w0 y
def StE (M : Nat) (w0 : World) (again tries : Int) (b bm rb i : Nat) (y : World) : Prop := ∃ now top c g gv G v L rgv, StG M w0 again tries b bm rb i now top c g gv G v L rgv y
/-- the state with a step's array -/
def StA (M : Nat) (w0 : World) (again tries : Int) (b bm rb i A : Nat) (a : Nat → Int) (y : World) : Prop := StE M w0 again tries b bm rb i y ∧ Arr3 y A a
section
variable {M A : Nat} {w0 : World} {a : Nat → Int} {again tries : Int} {b bm rb i : Nat} {now top : Int} {c : Nat} {g : Int → Option (Int × Int)} {gv : Value} {G : List Int} {v : Value} {L : List Lk} {rgv : Value} {y y' : World}
theorem QG.st (h : QG M A w0 a again tries b bm rb now top c g gv G now top v L rgv G y) (rel : PG g L tries top G) (clk : 0 ≤ now ∧ now ≤ 1000000) (gl : G.length ≤ 200 * i) : StA M w0 again tries b bm rb i A a y :=
  ⟨⟨now, top, c, g, gv, G, v, L, rgv, ⟨h.p, h.r, h.ap, rel, clk, gl, h.kb⟩⟩, h.arr⟩
theorem StA.below (h : StA M w0 again tries b bm rb i A a y) (hM : M ≤ w0.heap.size) (k : Below y.heap.size y y') : StA M w0 again tries b bm rb i A a y' := by
  obtain ⟨⟨now, top, c, g, gv, G, v, L, rgv, s⟩, ha⟩ := h
  exact ⟨⟨now, top, c, g, gv, G, v, L, rgv, ⟨s.p.below k, s.r.below k, s.ap, s.rel, s.clk, s.glen, s.kb.trans (k.mono (Nat.le_trans hM s.kb.size))⟩⟩, Below.heapAt k ha (lt_of_block ha)⟩
theorem StA.kb (h : StA M w0 again tries b bm rb i A a y) : Below M w0 y := by
  obtain ⟨⟨now, top, c, g, gv, G, v, L, rgv, s⟩, ha⟩ := h
  exact s.kb
theorem StE.more (h : StE M w0 again tries b bm rb i y) : StE M w0 again tries b bm rb (i + 1) y := by
  obtain ⟨now, top, c, g, gv, G, v, L, rgv, s⟩ := h
  exact ⟨now, top, c, g, gv, G, v, L, rgv, ⟨s.p, s.r, s.ap, s.rel, s.clk, by have := s.glen; omega, s.kb⟩⟩
theorem StA.put (h : StA M w0 again tries b bm rb i A a y) (hA : M ≤ A) (k : Nat) (hk : k < 3) (x : Int) : StA M w0 again tries b bm rb i A (fun j => if j = k then x else a j) (y.setCell ⟨A, k, none⟩ (.int .i64 x)) := by
  obtain ⟨⟨now, top, c, g, gv, G, v, L, rgv, s⟩, ha⟩ := h
  have kk : Keeps (fun j => j = A) y (y.setCell ⟨A, k, none⟩ (.int .i64 x)) := KeepsBut.set (KeepsBut.refl A y) k (.int .i64 x)
  have ne : ∀ (j : Nat) (cs : Array Value) (T : TypeId), T ≠ 34 → y.heap[j]? = some (.cells cs T (0, 0)) → j ≠ A := fun j cs T hT e q => by
    subst q; unfold Arr3 at ha; rw [ha] at e; simp at e; exact hT e.2.symm
  have hmp : bm ≠ A := fun e => s.p.map.ne_cells _ _ _ (by rw [e]; exact ha)
  have irow : ∀ {n : Nat} {u : Value} {xs : List Value}, y.ownsRow M 3 1 u n xs → ∀ j, u.ownBlock = some j → j ≠ A := fun hu j hj => by
    obtain ⟨cs, e⟩ := QG.intRow_kind hu hj
    exact ne j _ _ (by decide) e
  refine ⟨⟨now, top, c, g, gv, G, v, L, rgv, ⟨⟨Keeps.heap kk s.p.at_ (fun e => ne b _ _ (by decide) s.p.at_ e), s.p.map.block (kk.block bm s.p.map.lt hmp), s.p.ne, intRow_keepOf s.p.row (fun j hj hl => kk.block j hl (irow s.p.row j hj)), s.p.low⟩, ⟨Keeps.heap kk s.r.at_ (fun e => ne rb _ _ (by decide) s.r.at_ e), s.r.row.keep (fun j hj _ hl => kk.block j hl (fun e => ?_)), intRow_keepOf s.r.gave (fun j hj hl => kk.block j hl (irow s.r.gave j hj)), s.r.low⟩, s.ap, s.rel, s.clk, s.glen, Below.setCell s.kb hA _⟩⟩, ha.set k hk x⟩
  obtain ⟨cs, e'⟩ := QG.lack_kind s.r.row hj
  exact ne j _ _ (by decide) e' e
theorem StA.start (h : StE M w0 again tries b bm rb i y) (hM : M ≤ w0.heap.size) : StA M w0 again tries b bm rb i y.heap.size (fun _ => 0) (y.alloc (.cells #[.int .i64 0, .int .i64 0, .int .i64 0] 34)) := by
  obtain ⟨now, top, c, g, gv, G, v, L, rgv, s⟩ := h
  have k : Below y.heap.size y (y.alloc (.cells #[.int .i64 0, .int .i64 0, .int .i64 0] 34)) := (Below.refl _ _).alloc (Nat.le_refl _) _
  exact ⟨⟨now, top, c, g, gv, G, v, L, rgv, ⟨s.p.below k, s.r.below k, s.ap, s.rel, s.clk, s.glen, s.kb.trans (k.mono (Nat.le_trans hM s.kb.size))⟩⟩, obj_new _ _⟩
theorem errV_env (hM : M = w0.heap.size) (hE : Env w0) (k : Below M w0 y) : Env y := by
  subst hM
  exact hE.below k
theorem gTime_ok (h : Pl.clockOk now (a 2)) : Pl.gTime now (a 2) = 0 := by
  unfold Pl.clockOk at h; unfold Pl.gTime
  rw [if_pos ⟨h.1, h.2.1⟩, if_neg (by omega)]
theorem gTime_bad {x : Int} (h : ¬ Pl.clockOk now x) : Pl.gTime now x = Pl.clockFault x := by
  unfold Pl.clockOk at h; unfold Pl.gTime Pl.clockFault
  by_cases e : 0 ≤ x ∧ x ≤ 1000000
  · rw [if_pos e, if_pos (by omega), if_neg (by omega)]
  · rw [if_neg e, if_pos (by omega)]
theorem clockFault_ne (x : Int) : Pl.clockFault x ≠ 0 := by unfold Pl.clockFault; split <;> decide
/-- Hear: the reference first -/
theorem gplays_hear (hM : M ≤ w0.heap.size) (hag : 1 ≤ again ∧ again ≤ 1000000 ∧ 1 ≤ tries ∧ tries ≤ 20) (hi : i ≤ 400) (h : StA M w0 again tries b bm rb i A a y) :
    ∃ (B : Bool) (k : Int) (Q1 : World → Prop), (∀ z, Q1 z → Arr3 z A a) ∧
      (Calls Tryd.prog 16 #[.pointer (some ⟨rb, 0, none⟩), .int .i64 (a 1), .int .i64 (a 2)] y fun e w' => e = .returned (.tuple #[.bool B, .int .i64 k]) ∧ Q1 w') ∧
      ∀ z, Q1 z → Calls Tryd.prog 17 #[.pointer (some ⟨b, 0, none⟩), .int .i64 (a 1), .int .i64 (a 2)] z fun e w' => e = .returned (.tuple #[.bool B, errV k]) ∧ StA M w0 again tries b bm rb (i + 1) A a w' := by
  obtain ⟨⟨now, top, c, g, gv, G, v, L, rgv, s⟩, ha⟩ := h
  have J : QG M A w0 a again tries b bm rb now top c g gv G now top v L rgv G y := ⟨s.p, s.r, s.ap, ha, s.kb⟩
  have hgl := s.glen
  have hyM := J.size hM
  have hL := s.rel.len
  have same : ∀ z, QG M A w0 a again tries b bm rb now top c g gv G now top v L rgv G z → StA M w0 again tries b bm rb (i + 1) A a z := fun z hz => hz.st s.rel s.clk (by omega)
  by_cases hc : Pl.clockOk now (a 2)
  case neg =>
    refine ⟨false, Pl.clockFault (a 2), QG M A w0 a again tries b bm rb now top c g gv G now top v L rgv G, fun z hz => hz.arr, ?_, fun z hz => ?_⟩
    · exact (rHear_bad rb now again tries top v rgv (a 1) (a 2) _ (clockFault_ne _) (.inl (gTime_bad hc)) y s.r.at_).mono fun e w' ⟨h1, h2⟩ => ⟨h1, J.below hM h2⟩
    · exact (hear_bad b now (a 1) (a 2) again tries top bm gv hc z hz.p.at_).mono fun e w' ⟨h1, h2⟩ => ⟨by rw [h1, errV_hit _ (clockFault_ne _)], h2 ▸ same z hz⟩
  have hct := gTime_ok hc
  have hcn : 0 ≤ a 2 ∧ a 2 ≤ 1000000 := ⟨hc.1, hc.2.1⟩
  cases hl : Pl.long (a 1) with
  | false =>
    refine ⟨false, 1, QG M A w0 a again tries b bm rb now top c g gv G now top v L rgv G, fun z hz => hz.arr, ?_, fun z hz => ?_⟩
    · exact (rHear_bad rb now again tries top v rgv (a 1) (a 2) 1 (by decide) (.inr ⟨hct, hl, rfl⟩) y s.r.at_).mono fun e w' ⟨h1, h2⟩ => ⟨h1, J.below hM h2⟩
    · exact (hear_range b now (a 1) (a 2) again tries top bm gv hc hl z hz.p.at_).mono fun e w' ⟨h1, h2⟩ => ⟨h1, h2 ▸ same z hz⟩
  | true =>
  obtain ⟨hn1, hn2⟩ := (Pl.long_iff (a 1)).1 hl
  by_cases h0 : top < 0
  · have hg : g (a 1) = none := s.rel.above (by omega)
    refine ⟨true, 0, QG M A w0 a again tries b bm rb now top c g gv G (a 2) (a 1) v L rgv G, fun z hz => hz.arr, ?_, fun z hz => ?_⟩
    · exact (rHear_first M rb now again tries top v L rgv G (a 1) (a 2) hct hl h0 y s.r).mono fun e w' ⟨h1, h2, h3⟩ => ⟨h1, J.ref hM h2 h3 (fun j e => .inl e)⟩
    · have hcc := s.rel.cnt hz.p.map glaw Tryd.underlying3
      exact (hear_first' M b now again tries top (a 1) (a 2) bm c g gv G hc hl s.rel.bnd (by omega) h0 hg z (hz.size hM) hz.p).mono fun e w' ⟨h1, h2, h3⟩ => ⟨h1, (hz.prog hM h2 h3 (fun j e => .inl e)).st (s.rel.first h0 (a 1) hn1 hn2) hcn (by omega)⟩
  by_cases h1 : top < a 1
  · have hg : g (a 1) = none := s.rel.above (by omega)
    by_cases hf : 200 < a 1 - top - 1 + L.length
    · refine ⟨false, 4, QG M A w0 a again tries b bm rb now top c g gv G now top v L rgv G, fun z hz => hz.arr, ?_, fun z hz => ?_⟩
      · exact (rHear_full M rb now again tries top v L rgv G (a 1) (a 2) hct hl s.rel.bnd (by omega) (by omega) h1 hf y s.r).mono fun e w' ⟨h1, h2⟩ => ⟨h1, J.below hM h2⟩
      · have hcc := s.rel.cnt hz.p.map glaw Tryd.underlying3
        exact (hear_full' M b now again tries top (a 1) (a 2) bm c g gv G hc hl s.rel.bnd (by omega) (by omega) h1 (by omega) hg z (hz.size hM) hz.p).mono fun e w' ⟨q1, q2, q3⟩ => ⟨q1, same _ (hz.prog hM q2 q3 (fun j e => .inl e))⟩
    · refine ⟨true, 0, fun z => ∃ v2, QG M A w0 a again tries b bm rb now top c g gv G (a 2) (a 1) v2 (L ++ lkFill top (a 1 - top - 1).toNat) rgv G z, fun z ⟨_, hz⟩ => hz.arr, ?_, fun z ⟨v2, hz⟩ => ?_⟩
      · exact (rHear_up M rb now again tries top v L rgv G (a 1) (a 2) hct hl (by omega) (by omega) h1 (by omega) y hyM s.r).mono fun e w' ⟨v2, q1, q2, q3, q4⟩ => ⟨q1, v2, J.ref hM q2 q3 (fun j e => .inl e)⟩
      · have hcc := s.rel.cnt hz.p.map glaw Tryd.underlying3
        exact (hear_above' M b now again tries top (a 1) (a 2) bm c g gv G hc hl s.rel.bnd (by omega) (by omega) h1 (by omega) hg z (hz.size hM) hz.p).mono fun e w' ⟨c', q1, q2, _, q3⟩ => ⟨q1, (hz.prog hM q2 q3 (fun j e => .inl e)).st (s.rel.up (by omega) (by omega) (a 1) h1 hn2 (by omega)) hcn (by omega)⟩
  · cases hg : g (a 1) with
    | none =>
      refine ⟨false, 0, fun z => ∃ v2, QG M A w0 a again tries b bm rb now top c g gv G (a 2) top v2 L rgv G z, fun z ⟨_, hz⟩ => hz.arr, ?_, fun z ⟨v2, hz⟩ => ?_⟩
      · refine (rHear_down M rb now again tries top v L rgv G (a 1) (a 2) hct hl (by omega) (by omega) (by omega) y hyM s.r).mono fun e w' ⟨v2, q1, q2, q3, q4⟩ => ?_
        rw [s.rel.down_none (a 1) hg] at q1 q2
        exact ⟨by rw [q1]; simp, v2, J.ref hM q2 q3 (fun j e => .inl e)⟩
      · have hcc := s.rel.cnt hz.p.map glaw Tryd.underlying3
        exact (hear_known' M b now again tries top (a 1) (a 2) bm c g gv G hc hl s.rel.bnd (by omega) (by omega) (by omega) hg z (hz.size hM) hz.p).mono fun e w' ⟨q1, q2, q3⟩ => ⟨q1, (hz.prog hM q2 q3 (fun j e => .inl e)).st s.rel hcn (by omega)⟩
    | some p =>
      obtain ⟨t, at_⟩ := p
      refine ⟨true, 0, fun z => ∃ v2, QG M A w0 a again tries b bm rb now top c g gv G (a 2) top v2 (L.filter (fun x => decide (x.num ≠ a 1))) rgv G z, fun z ⟨_, hz⟩ => hz.arr, ?_, fun z ⟨v2, hz⟩ => ?_⟩
      · refine (rHear_down M rb now again tries top v L rgv G (a 1) (a 2) hct hl (by omega) (by omega) (by omega) y hyM s.r).mono fun e w' ⟨v2, q1, q2, q3, q4⟩ => ?_
        exact ⟨by rw [q1, decide_eq_true (s.rel.down_some (a 1) t at_ hg)], v2, J.ref hM q2 q3 (fun j e => .inl e)⟩
      · have hcc := s.rel.cnt hz.p.map glaw Tryd.underlying3
        exact (hear_lacking' M b now again tries top (a 1) (a 2) bm c g gv G hc hl s.rel.bnd (by omega) (by omega) (by omega) t at_ hg z (hz.size hM) hz.p).mono fun e w' ⟨q1, q2, q3⟩ => ⟨q1, (hz.prog hM q2 q3 (fun j e => .inl e)).st (s.rel.down (a 1)) hcn (by omega)⟩
/-- Due -/
theorem gplays_due (hM : M ≤ w0.heap.size) (hag : 1 ≤ again ∧ again ≤ 1000000 ∧ 1 ≤ tries ∧ tries ≤ 20) (hi : i ≤ 400) (h : StA M w0 again tries b bm rb i A a y) :
    ∃ (k : Int) (Q1 : Value → World → Prop) (Q2 : Value → Value → World → Prop), (∀ v2 z, Q1 v2 z → Arr3 z A a) ∧ (∀ v1 v2 z, Q2 v1 v2 z → Below M w0 z) ∧ (∀ v1 v2 z z', Q2 v1 v2 z → Below z.heap.size z z' → Q2 v1 v2 z') ∧
      (Calls Tryd.prog 18 #[.pointer (some ⟨rb, 0, none⟩), .int .i64 (a 2)] y fun e w' => ∃ v2, e = .returned (.tuple #[v2, .int .i64 k]) ∧ Q1 v2 w') ∧
      (∀ v2 z, Q1 v2 z → Calls Tryd.prog 19 #[.pointer (some ⟨b, 0, none⟩), .int .i64 (a 2)] z fun e w' => ∃ v1, e = .returned (.tuple #[v1, errV k]) ∧ Q2 v1 v2 w') ∧
      ∀ v1 v2 z, Q2 v1 v2 z → Calls Tryd.prog 20 #[v1, v2] z fun e w' => e = .returned (.bool true) ∧ StA M w0 again tries b bm rb (i + 1) A a w' := by
  obtain ⟨⟨now, top, c, g, gv, G, v, L, rgv, s⟩, ha⟩ := h
  have J : QG M A w0 a again tries b bm rb now top c g gv G now top v L rgv G y := ⟨s.p, s.r, s.ap, ha, s.kb⟩
  have hgl := s.glen
  have hyM := J.size hM
  have hL := s.rel.len
  by_cases hc : Pl.clockOk now (a 2)
  case neg =>
    refine ⟨Pl.clockFault (a 2), fun v2 z => v2 = .slice none 0 0 ∧ QG M A w0 a again tries b bm rb now top c g gv G now top v L rgv G z, fun v1 v2 z => v1 = .slice none 0 0 ∧ v2 = .slice none 0 0 ∧ QG M A w0 a again tries b bm rb now top c g gv G now top v L rgv G z, fun v2 z hz => hz.2.arr, fun v1 v2 z hz => hz.2.2.kb, fun v1 v2 z z' hz k => ⟨hz.1, hz.2.1, hz.2.2.below hM k⟩, ?_, fun v2 z hz => ?_, fun v1 v2 z hz => ?_⟩
    · have hgt := gTime_bad hc
      have := rDue_bad rb now again tries top v rgv (a 2) (by rw [hgt]; exact clockFault_ne _) y s.r.at_
      rw [hgt] at this
      exact this.mono fun e w' ⟨h1, h2⟩ => ⟨_, h1, rfl, h2 ▸ J⟩
    · exact (due_bad b now (a 2) again tries top bm gv hc z hz.2.p.at_).mono fun e w' ⟨h1, h2⟩ => ⟨_, by rw [h1, errV_hit _ (clockFault_ne _)], rfl, hz.1, h2 ▸ hz.2⟩
    · obtain ⟨rfl, rfl, hz⟩ := hz
      refine (sameInts_eq _ _ [] z (.inl ⟨rfl, none, 0, rfl, by simp, fun _ => rfl⟩) (.inl ⟨rfl, none, 0, rfl, by simp, fun _ => rfl⟩)).mono fun e w' ⟨h1, n, h2⟩ => ⟨h1, ?_⟩
      subst h2
      exact (hz.drewN n).st s.rel s.clk (by omega)
  have hct := gTime_ok hc
  have hcn : 0 ≤ a 2 ∧ a 2 ≤ 1000000 := ⟨hc.1, hc.2.1⟩
  have rel2 := s.rel.due again (a 2) hcn
  have hdl := dG_len again tries (a 2) L
  have hgl2 : (G ++ dG again tries (a 2) L).length ≤ 200 * (i + 1) := by rw [List.length_append]; omega
  refine ⟨0, fun v2 z => (∃ v' rgv', QG M A w0 a again tries b bm rb now top c g gv G (a 2) top v' (dK again tries (a 2) L) rgv' (G ++ dG again tries (a 2) L) z ∧ (∀ j, v2.ownBlock = some j → y.heap.size ≤ j)) ∧ (b < y.heap.size ∧ bm < y.heap.size ∧ ∀ j, gv.ownBlock = some j → j < y.heap.size) ∧ ∃ M2, z.ownsRow M2 3 1 v2 (dA again tries (a 2) L).length ((dA again tries (a 2) L).map encI),
    fun v1 v2 z => (∃ c' gv' v' rgv', QG M A w0 a again tries b bm rb (a 2) top c' (fun j => (g j).bind (dueStep again tries (a 2))) gv' (G ++ dG again tries (a 2) L) (a 2) top v' (dK again tries (a 2) L) rgv' (G ++ dG again tries (a 2) L) z) ∧ (∃ M1, z.ownsRow M1 3 1 v1 (dA again tries (a 2) L).length ((dA again tries (a 2) L).map encI)) ∧ ∃ M2, z.ownsRow M2 3 1 v2 (dA again tries (a 2) L).length ((dA again tries (a 2) L).map encI), fun v2 z ⟨⟨_, _, hz, _⟩, _⟩ => hz.arr, fun v1 v2 z ⟨⟨_, _, _, _, hz⟩, _⟩ => hz.kb, fun v1 v2 z z' ⟨⟨c', gv', v', rgv', hz⟩, ⟨M1, r1⟩, M2, r2⟩ k => ⟨⟨c', gv', v', rgv', hz.below hM k⟩, ⟨M1, intRow_below r1 k⟩, M2, intRow_below r2 k⟩, ?_, fun v2 z ⟨⟨v', rgv', hz, hv2⟩, ⟨hb1, hb2, hb3⟩, M2, r2⟩ => ?_, fun v1 v2 z ⟨⟨c', gv', v', rgv', hz⟩, ⟨M1, r1⟩, M2, r2⟩ => ?_⟩
  · exact (rDue_ok M rb now again tries top (a 2) v L rgv G hct hcn (by omega) (by omega) (fun x hx => by have := s.rel.vals x hx; omega) y hyM s.r).mono fun e w' ⟨v2, v', rgv', q1, q2, q3, q4, q5, q6⟩ => ⟨v2, q1, ⟨v', rgv', J.ref hM q2 q6 q5, fun j hj => (q3.lt j hj).1⟩, ⟨lt_of_block s.p.at_, s.p.map.lt, fun j hj => (s.p.row.lt j hj).2⟩, _, q3⟩
  · have hcc := s.rel.cnt hz.p.map glaw Tryd.underlying3
    refine (due_ok' M b now again tries top (a 2) bm c g gv G hc (by omega) (by omega) (by omega) (fun j hj => ?_) (fun j t at_ hj => ?_) z (hz.size hM) hz.p).mono fun e w' ⟨S, c', v1, gv', q1, q2, q3, q4, q5, q6, q7, q8, q9, q10, q11⟩ => ?_
    · obtain ⟨x, hx, rfl⟩ := List.mem_map.1 ((s.rel.mem j).1 hj)
      have := s.rel.low x hx; have := s.rel.bnd; omega
    · have := s.rel.vals _ ((s.rel.iff j t at_).1 hj)
      simp at this; omega
    · have hS : S = L.map Lk.num := rises_eq q2 s.rel.rises (fun i => by rw [q3 i, s.rel.mem i])
      subst hS
      rw [s.rel.give_eq] at q6
      rw [s.rel.ask_eq] at q7
      refine ⟨v1, q1, ⟨c', gv', v', rgv', hz.prog hM q6 q11 q10⟩, ⟨M, q7⟩, M2, ?_⟩
      refine intRow_keepOf r2 (fun j hj hl => q11.block j hl (fun e => ?_))
      have h2 := hv2 j hj
      rcases e with rfl | rfl | e
      · omega
      · omega
      · have := hb3 j e; omega
  · refine (sameInts_eq v1 v2 _ z (intRow_sl r1) (intRow_sl r2)).mono fun e w' ⟨h1, n, h2⟩ => ⟨h1, ?_⟩
    subst h2
    exact (hz.drewN n).st rel2 hcn hgl2
/-- GaveUp -/
theorem gplays_gave (hM : M ≤ w0.heap.size) (hi : i ≤ 400) (h : StA M w0 again tries b bm rb i A a y) :
    ∃ (rgv : Value) (Q1 : Value → World → Prop) (Q2 : Value → Value → World → Prop) (Q3 : World → Prop), y.cell? ⟨rb, 5, none⟩ = some rgv ∧
      (Calls Tryd.prog 21 #[rgv] y fun e w' => ∃ v2, e = .returned v2 ∧ Q1 v2 w') ∧
      (∀ v2 z, Q1 v2 z → Calls Tryd.prog 22 #[.pointer (some ⟨b, 0, none⟩)] z fun e w' => ∃ v1, e = .returned v1 ∧ Q2 v1 v2 w') ∧
      (∀ v1 v2 z, Q2 v1 v2 z → Calls Tryd.prog 20 #[v1, v2] z fun e w' => e = .returned (.bool true) ∧ Q3 w') ∧
      ∀ z, Q3 z → (z.cell? ⟨rb, 5, none⟩).isSome = true ∧ z.cell? ⟨rb, 5, none⟩ = some rgv ∧ z.frozen? ⟨rb, 5, none⟩ = false ∧ StA M w0 again tries b bm rb (i + 1) A a (z.setCell ⟨rb, 5, none⟩ (.slice none 0 0)) := by
  obtain ⟨⟨now, top, c, g, gv, G, v, L, rgv, s⟩, ha⟩ := h
  have J : QG M A w0 a again tries b bm rb now top c g gv G now top v L rgv G y := ⟨s.p, s.r, s.ap, ha, s.kb⟩
  have hgl := s.glen
  have hyM := J.size hM
  have hgy : ∀ j, gv.ownBlock = some j → j < y.heap.size := fun j hj => (s.p.row.lt j hj).2
  have hby := lt_of_block s.p.at_
  have hmy := s.p.map.lt
  refine ⟨rgv, fun v2 z => QG M A w0 a again tries b bm rb now top c g gv G now top v L rgv G z ∧ ∃ S, Rises S ∧ (∀ i, i ∈ S ↔ i ∈ G) ∧ z.ownsRow y.heap.size 3 1 v2 S.length (S.map encI),
    fun v1 v2 z => QG M A w0 a again tries b bm rb now top c g (.slice none 0 0) [] now top v L rgv G z ∧ ∃ S, Sl encI z v1 S ∧ Sl encI z v2 S,
    fun z => QG M A w0 a again tries b bm rb now top c g (.slice none 0 0) [] now top v L rgv G z, obj_cell s.r.at_ rfl, ?_, fun v2 z ⟨hz, S, q1, q2, q3⟩ => ?_, fun v1 v2 z ⟨hz, S, q1, q2⟩ => ?_, fun z hz => ?_⟩
  · exact (rSorted_any rgv G (by omega) y (intRow_sl s.r.gave)).mono fun e w' ⟨v2, S, q1, q2, q3, q4, q5⟩ => ⟨v2, q1, J.below hM q5, S, q2, q3, q4⟩
  · refine (gaveUp_any' M b now again tries top bm c g gv G (by omega) z (hz.size hM) hz.p).mono fun e w' ⟨h1, h2, h3, h4⟩ => ⟨_, h1, hz.prog hM h2 h4 (fun j hj => by cases hj), S, ?_, ?_⟩
    · have hS : (G.mergeSort fun x y => decide (x ≤ y)) = S := by
        refine rises_eq ?_ q1 (fun i => ?_)
        · have hs := List.pairwise_mergeSort (le := fun x y : Int => decide (x ≤ y)) (fun a b c h1 h2 => by simp at *; omega) (fun a b => by simp; omega) G
          have hn : (G.mergeSort fun x y => decide (x ≤ y)).Nodup := (List.mergeSort_perm G _).nodup_iff.2 s.rel.gnd
          exact (hs.and hn).imp (fun {a b} q => by simp at q; omega)
        · rw [q2 i, List.mem_mergeSort]
      have hl : G.length = (G.mergeSort fun x y => decide (x ≤ y)).length := by rw [List.length_mergeSort]
      rw [hl] at h3
      rw [← hS]
      exact intRow_sl h3
    · refine intRow_sl (intRow_keepOf q3 (fun j hj hl => h4.block j hl (fun e => ?_)))
      have h2 := (q3.lt j hj).1
      rcases e with rfl | rfl | e
      · omega
      · omega
      · have := hgy j e; omega
  · refine (sameInts_eq v1 v2 S z q1 q2).mono fun e w' ⟨h1, n, h2⟩ => ⟨h1, ?_⟩
    subst h2
    exact hz.drewN n
  · have c5 : z.cell? ⟨rb, 5, none⟩ = some rgv := obj_cell hz.r.at_ rfl
    have kk : Keeps (fun j => j = rb ∨ v.ownBlock = some j ∨ rgv.ownBlock = some j) z (z.setCell ⟨rb, 5, none⟩ (.slice none 0 0)) := Keeps.setCell (Keeps.refl _ _) (.inl (.inl rfl)) _
    have rg : RGp M (z.setCell ⟨rb, 5, none⟩ (.slice none 0 0)) rb now again tries top v L (.slice none 0 0) [] := by
      refine ⟨?_, hz.r.row.keep (fun j hj _ hl => Below.heap_setCell _ _ _ _ (fun e => lrow_ne hz.r.row hz.r.at_ (hj.trans (by rw [e])))), World.ownsRow_nil _ _ _ _, hz.r.low⟩
      have a := hz.r.at_
      unfold RGapsAt at *
      rw [obj_set a]; rfl
    exact ⟨by rw [c5]; rfl, c5, obj_free hz.r.at_ 5, (hz.ref hM rg kk (fun j hj => by cases hj)).st s.rel.gave s.clk (by simp)⟩
/-- what is lacking -/
theorem gplays_lacks (hM : M ≤ w0.heap.size) (hi : i ≤ 1000) (h : StA M w0 again tries b bm rb i A a y) :
    ∃ (Q1 : Value → World → Prop) (Q2 : Value → Value → World → Prop),
      (Calls Tryd.prog 23 #[.pointer (some ⟨b, 0, none⟩)] y fun e w' => ∃ v1, e = .returned v1 ∧ Q1 v1 w') ∧
      (∀ v1 z, Q1 v1 z → Calls Tryd.prog 24 #[.pointer (some ⟨rb, 0, none⟩)] z fun e w' => ∃ v2, e = .returned v2 ∧ Q2 v1 v2 w') ∧
      (∀ v1 v2 z, Q2 v1 v2 z → Calls Tryd.prog 20 #[v1, v2] z fun e w' => e = .returned (.bool true) ∧ StE M w0 again tries b bm rb i w') := by
  obtain ⟨⟨now, top, c, g, gv, G, v, L, rgv, s⟩, ha⟩ := h
  have J : QG M A w0 a again tries b bm rb now top c g gv G now top v L rgv G y := ⟨s.p, s.r, s.ap, ha, s.kb⟩
  have hL := s.rel.len
  have hcc := s.rel.cnt s.p.map glaw Tryd.underlying3
  refine ⟨fun v1 z => QG M A w0 a again tries b bm rb now top c g gv G now top v L rgv G z ∧ ∃ M1, z.ownsRow M1 3 1 v1 (L.map Lk.num).length ((L.map Lk.num).map encI),
    fun v1 v2 z => QG M A w0 a again tries b bm rb now top c g gv G now top v L rgv G z ∧ Sl encI z v1 (L.map Lk.num) ∧ Sl encI z v2 (L.map Lk.num), ?_, fun v1 z ⟨hz, M1, r1⟩ => ?_, fun v1 v2 z ⟨hz, r1, r2⟩ => ?_⟩
  · refine (gapsLacks_any M b now again tries top bm c g gv G (by omega) y s.p).mono fun e w' ⟨v1, S, q1, q2, q3, q4, q5, q6⟩ => ⟨v1, q1, J.below hM q6, y.heap.size, ?_⟩
    have hS : S = L.map Lk.num := rises_eq q2 s.rel.rises (fun i => by rw [q3 i, s.rel.mem i])
    subst hS
    exact q5
  · exact (rGapsLacks_any M rb now again tries top v L rgv G (by omega) z hz.r).mono fun e w' ⟨v2, q1, q2, q3⟩ => ⟨v2, q1, hz.below hM q3, intRow_sl (intRow_below r1 q3), intRow_sl q2⟩
  · refine (sameInts_eq v1 v2 _ z r1 r2).mono fun e w' ⟨h1, n, h2⟩ => ⟨h1, ?_⟩
    subst h2
    exact ((hz.drewN n).st s.rel s.clk s.glen : StA M w0 again tries b bm rb i A a _).1
end
end Go.Proofs.YtlfdkoebjddokaaDoor
