import Derived.Test.YtlfdkoebjddokaaDoorKeysSorted
import Derived.Test.YtlfdkoebjddokaaDoorClock
import Derived.Test.YtlfdkoebjddokaaDoorSerial
import Derived.Deep.QuietTactic
import Derived.BigQuiet
import Derived.Deep.DeepCutAuto
import Derived.StillTailTactics
/-! Contracts of package gaps: New, Lacks. -/
namespace Go.Proofs.YtlfdkoebjddokaaDoor
open Go.RowKit Go.Maps Go.Sort Go.Shelf Go.Proofs
set_option linter.unusedVariables false
set_option linter.unusedSimpArgs false
theorem glaw : Keyed Tryd.prog 3 := Maps.int_keyed Tryd.underlying3
/-- how often a number was asked for, and when -/
abbrev askedV (t a : Int) : Value := .agg #[.int .i64 t, .int .i64 a]
theorem zeroAsked (w : World) : (zeroValue 99).run Tryd.prog w = .ok (askedV 0 0) w := by kernel_rfl
/-- what lies in the map -/
def LF (g : Int → Option (Int × Int)) : Int → Option Value := fun i => (g i).map (fun p => askedV p.1 p.2)
theorem LF.none {g : Int → Option (Int × Int)} {i : Int} (h : g i = Option.none) : LF g i = Option.none := by simp [LF, h]
theorem LF.some {g : Int → Option (Int × Int)} {i t a : Int} (h : g i = Option.some (t, a)) : LF g i = Option.some (askedV t a) := by simp [LF, h]
theorem LF.isSome (g : Int → Option (Int × Int)) (i : Int) : (LF g i).isSome = (g i).isSome := by cases h : g i <;> simp [LF, h]
theorem LF.put (g : Int → Option (Int × Int)) (k t a : Int) : (fun j => if j = k then Option.some (askedV t a) else LF g j) = LF (fun j => if j = k then Option.some (t, a) else g j) := by
  funext j; by_cases e : j = k <;> simp [LF, e]
theorem LF.del (g : Int → Option (Int × Int)) (k : Int) : (fun j => if j = k then Option.none else LF g j) = LF (fun j => if j = k then Option.none else g j) := by
  funext j; by_cases e : j = k <;> simp [LF, e]
/-- gaps in memory -/
def GapsAt (w : World) (b : Nat) (now again tries top : Int) (bm : Nat) (gv : Value) : Prop := w.heap[b]? = some (.cells #[.int .i64 now, .int .i64 again, .int .i64 tries, .int .i64 top, .map (some bm), gv] 95 (0, 0))
abbrev GMap (w : World) (bm c : Nat) (g : Int → Option (Int × Int)) : Prop := MapAt Tryd.prog 3 w bm c (LF g)
/-- gaps with their map and what was given up; M: no block of theirs is below it -/
structure Gp (M : Nat) (w : World) (b : Nat) (now again tries top : Int) (bm c : Nat) (g : Int → Option (Int × Int)) (gv : Value) (G : List Int) : Prop where
  at_ : GapsAt w b now again tries top bm gv
  map : GMap w bm c g
  ne : b ≠ bm
  row : w.ownsRow M 3 1 gv G.length (G.map encI)
  low : M ≤ b ∧ M ≤ bm
namespace Gp
variable {M : Nat} {w w' : World} {b : Nat} {now again tries top : Int} {bm c : Nat} {g : Int → Option (Int × Int)} {gv : Value} {G : List Int}
theorem below (h : Gp M w b now again tries top bm c g gv G) (k : Below w.heap.size w w') : Gp M w' b now again tries top bm c g gv G :=
  ⟨Below.heapAt k h.at_ (lt_of_block h.at_), h.map.below k h.map.lt, h.ne, intRow_below h.row k, h.low⟩
theorem drewN (h : Gp M w b now again tries top bm c g gv G) (k : Nat) : Gp M (w.drewN k) b now again tries top bm c g gv G := ⟨by exact h.at_, by exact h.map, h.ne, by exact h.row, h.low⟩
/-- the row's block is neither the object's nor the map's -/
theorem rowNe (h : Gp M w b now again tries top bm c g gv G) : ∀ k, gv.ownBlock = some k → M ≤ k ∧ k ≠ b ∧ k ≠ bm := fun k hk => by
  have hm := h.map
  refine ⟨(h.row.lt k hk).1, ?_⟩
  rcases h.row.2 with ⟨rfl, _⟩ | ⟨g', cap, cur, rfl, hb, hg, _⟩
  · simp [Value.ownBlock] at hk
  · simp [Value.ownBlock] at hk
    subst hk
    refine ⟨?_, ?_⟩
    · rintro rfl
      have := h.at_; unfold GapsAt at this; rw [this] at hg; simp at hg
    · rintro rfl
      obtain ⟨D, ⟨es, clock, q1, _⟩, _⟩ := hm; rw [q1] at hg; cases hg
/-- a store into the object -/
theorem set {now' again' tries' top' : Int} {j : Nat} {v : Value} (h : Gp M w b now again tries top bm c g gv G) (hg : GapsAt (w.setCell ⟨b, j, none⟩ v) b now' again' tries' top' bm gv) : Gp M (w.setCell ⟨b, j, none⟩ v) b now' again' tries' top' bm c g gv G :=
  ⟨hg, h.map.block (Below.heap_setCell _ _ _ _ (Ne.symm h.ne)), h.ne, intRow_keep h.row (fun k o hk _ => Below.heap_setCell _ _ _ _ (by
    rintro rfl
    have := h.at_; unfold GapsAt at this; rw [this] at hk; simp at hk)), h.low⟩
/-- the map has turned -/
theorem mapped {c' : Nat} {g' : Int → Option (Int × Int)} (h : Gp M w b now again tries top bm c g gv G) (m : GMap w' bm c' g') (q : w.grownBy w' (some bm)) : Gp M w' b now again tries top bm c' g' gv G := by
  have hne := h.ne
  have hm := h.map
  refine ⟨?_, m, hne, intRow_keep h.row (fun k o hk _ => q.block k (lt_of_block hk) (by
    rintro e; simp at e; subst e
    obtain ⟨D, ⟨es, clock, q1, _⟩, _⟩ := hm; rw [q1] at hk; cases hk)), h.low⟩
  have e := q.block b (lt_of_block h.at_) (by simp [hne])
  have a := h.at_
  unfold GapsAt at *
  rw [e]; exact a
end Gp
/-- gaps' own blocks alone are written -/
abbrev FG (b bm : Nat) (gv : Value) (w w' : World) : Prop := Keeps (fun k => k = b ∨ k = bm ∨ gv.ownBlock = some k) w w'
theorem FG.below {M : Nat} {w w' : World} {b : Nat} {now again tries top : Int} {bm c : Nat} {g : Int → Option (Int × Int)} {gv : Value} {G : List Int} (k : FG b bm gv w w') (h : Gp M w b now again tries top bm c g gv G) (hM : M ≤ w.heap.size) : Below M w w' :=
  Keeps.below k hM (fun j hj e => by
    rcases e with rfl | rfl | e
    · have := h.low.1; omega
    · have := h.low.2; omega
    · have := (h.rowNe j e).1; omega)
theorem gapsNew_ok (again tries : Int) (h1 : 1 ≤ again) (h2 : again ≤ 1000000) (h3 : 1 ≤ tries) (h4 : tries ≤ 20) (w : World) :
    Calls Tryd.prog 15 #[.int .i64 again, .int .i64 tries] w fun e w' => ∃ b bm, e = .returned (.tuple #[.pointer (some ⟨b, 0, none⟩), .nilIface]) ∧ Gp w.heap.size w' b 0 again tries (-1) bm 0 (fun _ => none) (.slice none 0 0) [] ∧ Below w.heap.size w w' := by
  have hmm := @run_makeMap Tryd.prog
  go_enter Tryd.func15, Tryd.ntmps15
  go_wp2
  go_ret2
  exact ⟨w.heap.size + 1, w.heap.size, rfl, ⟨obj_new2 _ _ _, (MapAt.made _ _ _).block (Below.heap_alloc _ _ _ (by simp)), Nat.succ_ne_self _, World.ownsRow_nil _ _ _ _, by omega, by omega⟩, ((Below.refl _ _).alloc (Nat.le_refl _) _).alloc (by simp) _⟩
theorem gapsNew_bad (again tries : Int) (h : ¬ (1 ≤ again ∧ again ≤ 1000000 ∧ 1 ≤ tries ∧ tries ≤ 20)) (w : World) :
    Calls Tryd.prog 15 #[.int .i64 again, .int .i64 tries] w fun e w' => e = .returned (.tuple #[.pointer none, .iface 70 (.int .i64 1)]) ∧ w = w' := by
  have G := Lib.hid h
  clear h
  go_enter Tryd.func15, Tryd.ntmps15
  go_wp2
  all_goals first
    | (exfalso; have := G.out; omega)
    | (go_ret2; exact ⟨rfl, rfl⟩)
set_option maxHeartbeats 1000000 in
/-- the sorted keys -/
theorem gapsLacks_any (M : Nat) (b : Nat) (now again tries top : Int) (bm c : Nat) (g : Int → Option (Int × Int)) (gv : Value) (G : List Int) (hc : c ≤ 1000000) (w : World) (h : Gp M w b now again tries top bm c g gv G) :
    Calls Tryd.prog 23 #[.pointer (some ⟨b, 0, none⟩)] w fun e w' => ∃ (v : Value) (S : List Int), e = .returned v ∧ Rises S ∧ (∀ i, i ∈ S ↔ (g i).isSome = true) ∧ S.length = c ∧ w'.ownsRow w.heap.size 3 1 v S.length (S.map encI) ∧ Below w.heap.size w w' := by
  have k4 := obj_cell h.at_ (k := 4) rfl
  have hm := h.map
  clear h
  obtain ⟨D0, hown, hsz, hat⟩ := hm
  have HAT := Lib.hid hat
  have HSZ := Lib.hid hsz
  have hmax : Maps.size D0 ≤ maxLen := by rw [hsz]; unfold maxLen; omega
  have hbytes : Maps.size D0 * 8 ≤ 140737488355328 := by rw [hsz]; omega
  clear hat hsz
  refine (callsIn_wide (n := 6)).1 ?_
  have hbl := hown.lt
  have hseq : SeqGives Fence.wide 2 Tryd.prog 50 #[.pointer (some ⟨w.heap.size, 0, none⟩)] encZ (fun ss => ss.Perm (intKeys D0)) (Maps.size D0) (w.alloc (.cells #[.map (some bm)] 93)) :=
    AnyZI.keys_gives (ρ := keysA_ren) { keysA with } Fence.wide _ trivial rfl (by omega) w.heap.size bm c D0 _ (by simp) (by simp) (by
      obtain ⟨es, clock, hb, Ft, hs, hD⟩ := hown
      exact ⟨es, clock, (Below.heap_alloc _ _ bm hbl).trans hb, Ft, hs, hD⟩)
  have cK : ∀ mb W, CallsIn Fence.wide 5 Tryd.prog 41 #[.map mb] W fun e w' => e = .returned (.func (.func 50) #[] #[.pointer (some ⟨W.heap.size, 0, none⟩)]) ∧ w' = W.alloc (.cells #[.map mb] 93) := fun mb W => AnyZI.keys_in keysA Fence.wide 5 trivial rfl mb W
  have cS := AnyZI.sorted_in sortedA Fence.wide 5 trivial trivial trivial trivial rfl (by omega) (sortsA _) (enters_of Tryd.func39 (by kernel_rfl) rfl) 50 #[.pointer (some ⟨w.heap.size, 0, none⟩)] trivial (enters_of Tryd.func50 (by kernel_rfl) rfl) _ _ hmax hbytes _ hseq
  change CallsIn _ _ Tryd.prog 40 _ _ _ at cS
  have hfK : Fence.wide.fn 41 := trivial
  have hfS : Fence.wide.fn 40 := trivial
  refine callsIn_of_wp Tryd.func23 rfl trivial ?_ rfl
  simp only [Tryd.ntmps23, List.size_toArray, List.length_cons, List.length_nil, Nat.reduceAdd, Nat.reduceSub, Array.replicate_succ, Array.replicate_zero, List.push_toArray, List.append_toArray, List.nil_append, List.cons_append]
  gi_wp2_with (first
    | (gi_at_call 41; refine (cK _ _).mono ?_; rintro e w' ⟨rfl, rfl⟩)
    | (gi_at_call 40; refine cS.mono ?_; rintro e w' ⟨v, ss, rfl, hS, hrow, hnil, hb⟩))
  go_ret
  obtain ⟨S, hSe, h1, h2, h3, h4⟩ := sorted_keys glaw Tryd.underlying3 hown HSZ.out HAT.out hS
  refine ⟨v, S, rfl, h1, fun i => by rw [h2 i, LF.isSome], h3, ?_, ((Below.refl _ w).alloc (Nat.le_refl _) _).trans (hb.mono (by simp))⟩
  rw [h4, hSe]
  exact ownsRow_base_a hrow (by simp)
end Go.Proofs.YtlfdkoebjddokaaDoor
