import Derived.Test.YtlfdkoebjddokaaDoorOrderLow
import Derived.Test.YtlfdkoebjddokaaDoorOrderWait
import Derived.Lib.AppendZeros
import Derived.Laws.AppendOwn
/-! order.Pop (under way). -/
namespace Go.Proofs.YtlfdkoebjddokaaDoor
open Go.RowKit
open Go.Maps (Keyed)
set_option linter.unusedVariables false
set_option linter.unusedSimpArgs false
/-- an item's cells -/
abbrev itemCells (num : Int) (gone : Bool) (s t l lv : Int) (st : Bool) (bv : Value) : List Value := [.int .i64 num, .bool gone, .int .i64 s, .int .i64 t, .int .i64 l, .int .i64 lv, .bool st, bv]
/-- what comes out: its items' cells, what is left, what is next -/
inductive Pops (now wait : Int) (f0 : Int → Option Value) (n0 : Int) : List (List Value) → (Int → Option Value) → Int → Prop
  | nil : Pops now wait f0 n0 [] f0 n0
  | has {L f nx num gone s t l lv st oa bn bc at'} : Pops now wait f0 n0 L f nx → f nx = some (keptV num gone s t l lv st (.slice oa bn bc) at') → Pops now wait f0 n0 (L ++ [itemCells num gone s t l lv st (.slice oa bn bc)]) (fun j => if j = nx then none else f j) (nx + 1)
  | gone {L f nx} : Pops now wait f0 n0 L f nx → f nx = none → Waited f now wait → Pops now wait f0 n0 (L ++ [itemCells nx true 0 0 0 0 false (.slice none 0 0)]) f (nx + 1)
theorem infoItem : (Tryd.prog.info? 81).map (fun i => (i.zero, i.size, i.bytes)) = some (some (.agg #[.int .i64 0, .bool false, .int .i64 0, .int .i64 0, .int .i64 0, .int .i64 0, .bool false, .slice none 0 0]), 8, 80) := by kernel_rfl
theorem run_moreItem (W : World) (M : Nat) (v : Value) (num : Int) (gone : Bool) (s t l lv : Int) (st : Bool) (oa : Option Addr) (bn bc : Nat) (n : Nat) (xs : List Value) (hown : W.ownsRow M 81 8 v n xs) (g : Nat) (hg : W.heap[g]? = some (.cells (itemCells num gone s t l lv st (.slice oa bn bc)).toArray 81 (0, 0))) (hn : n ≤ 1000000) (hB : M ≤ W.heap.size) :
    ∃ v' w', (Builtin.append_ #[45, 45] 45 #[v, .slice (some ⟨g, 0, none⟩) 1 1]).run Tryd.prog W = .ok v' w' ∧ w'.ownsRow M 81 8 v' (n + 1) (xs ++ itemCells num gone s t l lv st (.slice oa bn bc)) ∧ W.grownBy w' v.ownBlock := by
  obtain ⟨i0, hi, hz0, hz1, hz2⟩ := info_parts infoItem
  obtain ⟨v', w', h1, h2, h3, _⟩ := run_append_own (P := Tryd.prog) W M 45 45 81 i0 _ 8 80 Tryd.underlying45 hi hz0 hz1 hz2 rfl (by decide) v n xs hown ⟨g, 0, none⟩ 1 1 (itemCells num gone s t l lv st (.slice oa bn bc)) rfl
    (fun j x hx => by
      rw [Addr.add_lit, Nat.zero_add]
      exact obj_cell hg (by simpa using hx))
    (fun x hx => by simp at hx; rcases hx with rfl | rfl | rfl | rfl | rfl | rfl | rfl | rfl <;> rfl) (by unfold maxLen; omega) (by omega) hB
  exact ⟨v', w', h1, h2, h3⟩
theorem rowI_keep {w w' : World} {M n : Nat} {v : Value} {xs : List Value} (h : w.ownsRow M 81 8 v n xs) (hk : ∀ g o, w.heap[g]? = some (.cells o 81 (0, 0)) → M ≤ g → w'.heap[g]? = w.heap[g]?) : w'.ownsRow M 81 8 v n xs := by
  obtain ⟨h1, h2⟩ := h
  refine ⟨h1, ?_⟩
  rcases h2 with h2 | ⟨g, cap, cur, rfl, hb, hg, hc, hm, hs, ht⟩
  · exact .inl h2
  · exact .inr ⟨g, cap, cur, rfl, hb, by rw [hk g _ hg hb]; exact hg, hc, hm, hs, ht⟩
theorem Ord.grown {w w' : World} {M b : Nat} {now wait next : Int} {bm c : Nat} {f : Int → Option Value} {row : Option Nat} (h : Ord w b now wait next bm c f) (hg : w.grownBy w' row) (hr : ∀ k, row = some k → M ≤ k) (h1 : b < M) (h2 : bm < M) : Ord w' b now wait next bm c f := by
  have q1 := hg.block b (lt_of_block h.at_) (fun e => by have := hr b e.symm; omega)
  have q2 := hg.block bm h.map.lt (fun e => by have := hr bm e.symm; omega)
  refine ⟨?_, h.map.block q2, h.ne⟩
  have a := h.at_
  unfold OrderAt at *
  rw [q1]; exact a
/-- what is kept, in memory -/
def KeptAt (w : World) (g : Nat) (num : Int) (gone : Bool) (s t l lv : Int) (st : Bool) (bv : Value) (at' : Int) : Prop := w.heap[g]? = some (.cells #[.int .i64 num, .bool gone, .int .i64 s, .int .i64 t, .int .i64 l, .int .i64 lv, .bool st, bv, .int .i64 at'] 90 (0, 0))
theorem KB2.grown {w W wN : World} {b bm : Nat} {row : Option Nat} (h : KB2 b bm w W) (hg : W.grownBy wN row) (hr : ∀ k, row = some k → w.heap.size ≤ k) : KB2 b bm w wN :=
  ⟨hg.os.trans h.os, hg.tape.trans h.tape, hg.output.trans h.output, Nat.le_trans h.size hg.size, fun k hk hn => (hg.block k (Nat.lt_of_lt_of_le hk h.size) (fun e => by have := hr k e.symm; omega)).trans (h.block k hk hn)⟩
theorem rowI_set {w : World} {M n b j : Nat} {v u : Value} {xs : List Value} (h : w.ownsRow M 81 8 v n xs) (hb : b < M) : (w.setCell ⟨b, j, none⟩ u).ownsRow M 81 8 v n xs :=
  rowI_keep h (fun g o _ hM => Below.heap_setCell _ _ _ _ (by simp; omega))
set_option maxRecDepth 100000 in
set_option maxHeartbeats 8000000 in
theorem orderPop_any (b : Nat) (cur wait next now : Int) (bm c : Nat) (f : Int → Option Value) (M : Int) (hall : AllKept f) (hkeys : ∀ i, (f i).isSome = true → next ≤ i ∧ i < M) (hM : M ≤ next + 1000) (hn2 : next ≤ 1099511627876) (hn0 : -1 ≤ next) (hnM : next ≤ M) (hc : Pl.clockOk cur now) (w : World) (hO : Ord w b cur wait next bm c f) :
    Calls Tryd.prog 12 #[.pointer (some ⟨b, 0, none⟩), .int .i64 now] w fun e w' => ∃ (L : List (List Value)) (f' : Int → Option Value) (nx : Int) (c' : Nat) (v : Value), e = .returned (.tuple #[v, .nilIface]) ∧ Pops now wait f next L f' nx ∧ f' nx = none ∧ ¬ Waited f' now wait ∧ w'.ownsRow w.heap.size 81 8 v L.length L.flatten ∧ Ord w' b now wait nx bm c' f' ∧ c' ≤ c ∧ KB2 b bm w w' := by
  have k0 := obj_cell hO.at_ (k := 0) rfl
  have f0 := obj_free hO.at_ 0
  have hb := lt_of_block hO.at_
  have hbm := hO.map.lt
  go_enter Tryd.func12, Tryd.ntmps12
  go_wp2_with fail
  refine (clockCheck_ok b 0 cur now hc _ k0).mono ?_
  rintro e w' ⟨rfl, rfl⟩
  go_wp2_with fail
  refine (clockSet_any b 0 now _ _ k0 f0).mono ?_
  rintro e w3 ⟨rfl, rfl⟩
  go_upto_region 5 with fail
  refine abs_at (fun y => Ord y b now wait next bm c f ∧ Hid (KB2 b bm w y)) ⟨hO.set (obj_set hO.at_ 0 _), Lib.hid (Keeps.setCell (Keeps.refl _ _) (.inl (.inl rfl)) _)⟩ ?_
  clear hO k0 f0
  rintro w4 ⟨hO, kk⟩
  have HA := Lib.hid hall
  have HK := Lib.hid hkeys
  clear hall hkeys
  go_wp2_with fail
  go_loopw [7] (fun s7 wr => ∃ (L : List (List Value)) (f' : Int → Option Value) (nx : Int) (c' : Nat), Hid (Pops now wait f next L f' nx) ∧ Hid (AllKept f') ∧ Hid (∀ i, (f' i).isSome = true → nx ≤ i ∧ i < M) ∧ -1 ≤ nx ∧ c' ≤ c ∧ nx ≤ M ∧ Hid (wr.ownsRow w.heap.size 81 8 s7 L.length L.flatten) ∧ Hid (L.length = (nx - next).toNat) ∧ next ≤ nx ∧ Ord wr b now wait nx bm c' f' ∧ Hid (KB2 b bm w wr)) (fun _ wr => (M - intOf ((wr.cell? ⟨b, 2, none⟩).getD (.int .i64 0))).toNat)
  case atStart => exact ⟨[], f, next, c, Lib.hid .nil, HA, HK, hn0, Nat.le_refl _, hnM, Lib.hid (World.ownsRow_nil _ _ _ _), Lib.hid (by simp), Int.le_refl _, hO, kk⟩
  case round =>
    clear hO kk
    obtain ⟨L, f', nx, c', hp, ha, hk, i1, hcc, i2, hrow, hlen, i3, hO, kk⟩ := hrel
    obtain ⟨c1, c2, _⟩ := hc
    have hwn : (Lit.int .i64 nx).wf = true := by simp [Lit.wf, IntKind.min, IntKind.max, IntKind.signed, IntKind.bits]; omega
    have hbw := lt_of_block hO.at_
    have hbmw := hO.map.lt
    have k2 := obj_cell hO.at_ (k := 2) rfl
    have HK2 := Lib.hid k2
    have k3 := obj_cell hO.at_ (k := 3) rfl
    have O : Obj := .cells #[.int .i64 0, .bool false, .int .i64 0, .int .i64 0, .int .i64 0, .int .i64 0, .bool false, .slice none 0 0, .int .i64 0] 90
    have hlook := hO.map.drew.look_run mlaw Tryd.underlying3 Tryd.underlying71 (zeroK _) nx hwn
    have hlook2 := (hO.alloc (.cells #[.int .i64 0, .bool false, .int .i64 0, .int .i64 0, .int .i64 0, .int .i64 0, .bool false, .slice none 0 0, .int .i64 0] 90)).map.drew.look_run mlaw Tryd.underlying3 Tryd.underlying71 (zeroK _) nx hwn
    have hlook3 := (hO.alloc (.cells #[.int .i64 0, .bool false, .int .i64 0, .int .i64 0, .int .i64 0, .int .i64 0, .bool false, .slice none 0 0, .int .i64 0] 90)).map.look_run mlaw Tryd.underlying3 Tryd.underlying71 (zeroK _) nx hwn
    clear O
    have rowA : ∀ o : Obj, Hid ((wr.alloc o).ownsRow w.heap.size 81 8 _ L.length L.flatten) := fun o => Lib.hid (hrow.out.alloc o)
    cases hf : f' nx with
    | none =>
      rw [hf] at hlook hlook2 hlook3
      simp only [Option.getD_none, Option.isSome_none] at hlook hlook2 hlook3
      go_upto_region 6 with fail
      go_cut [9] from 23 to 69 (fun s9 y => s9 = .bool false ∧ Ord y b now wait nx bm c' f' ∧ Hid (y.ownsRow w.heap.size 81 8 _ L.length L.flatten) ∧ Hid (KB2 b bm w y))
      case first =>
        go_region
        all_goals (
          go_wp2_with fail
          go_meet
          exact ⟨rfl, hO.below (Below.drew ((Below.refl _ _).alloc (Nat.le_refl _) _)), by exact Lib.hid (rowA _).out, Lib.hid (Keeps.drew (kk.out.alloc _))⟩)
      case rest =>
      clear hO hrow kk hlook hlook2 hlook3 k2 k3 rowA
      obtain ⟨rfl, hO, hrow, kk⟩ := hcut
      go_wp2_with fail
      refine (orderWaited_any b now wait nx now bm c' f' ha.out ⟨c1, c2⟩ _ hO).mono ?_
      rintro e w5 ⟨r, rfl, hr1, hr2, k5⟩
      have hO5 := hO.below k5
      have row5 : Hid (w5.ownsRow w.heap.size 81 8 _ L.length L.flatten) := Lib.hid (rowI_keep hrow.out (fun g o hg _ => k5.block g (lt_of_block hg)))
      have kk5 : Hid (KB2 b bm w w5) := Lib.hid (Keeps.trans kk.out (Below.toKeeps k5 (Nat.le_refl _)))
      clear hO hrow kk k5
      cases r
      · have NW := Lib.hid (hr2 rfl)
        clear hr1 hr2
        go_wp2
        go_ret2
        exact ⟨L, f', nx, c', _, rfl, hp.out, hf, NW.out, row5.out, hO5, hcc, kk5.out⟩
      · have WT := Lib.hid (hr1 rfl)
        clear hr1 hr2
        have hlt : nx < M := by
          obtain ⟨i, num, gone, s, t, l, lv, st, oa, bn, bc, at', h1, h2⟩ := WT.out
          have := hk.out i (by rw [h1]; rfl)
          omega
        have k2 := obj_cell hO5.at_ (k := 2) rfl
        have hl5 : L.length ≤ 1000000 := by have := hlen.out; omega
        have bA : Below w5.heap.size w5 (w5.alloc (.cells (itemCells nx true 0 0 0 0 false (.slice none 0 0)).toArray 81)) := (Below.refl _ _).alloc (Nat.le_refl _) _
        have hOA := hO5.below bA
        have hsz5 := kk5.out.size
        have RUN := Lib.hid (run_moreItem (w5.alloc (.cells (itemCells nx true 0 0 0 0 false (.slice none 0 0)).toArray 81)) w.heap.size _ nx true 0 0 0 0 false none 0 0 L.length _ (row5.out.alloc _) w5.heap.size (obj_new _ _) hl5 (by simp; omega))
        have k2A := obj_cell hOA.at_ (k := 2) rfl
        go_upto_region 13 with (at_builtin; obtain ⟨vN, wN, hr, ho, hgr⟩ := RUN.out; refine Lib.wpList_append_run _ rfl (.tmp 55) (.tmp 61) 45 45 rfl _ _ rfl rfl _ _ hr ?_)
        have rlt := (row5.out.alloc (.cells (itemCells nx true 0 0 0 0 false (.slice none 0 0)).toArray 81)).lt
        refine abs_at (fun y => Ord y b now wait nx bm c' f' ∧ Hid (y.ownsRow w.heap.size 81 8 vN (L.length + 1) (L.flatten ++ itemCells nx true 0 0 0 0 false (.slice none 0 0))) ∧ Hid (KB2 b bm w y)) ⟨hOA.grown hgr (fun k hk => (rlt k hk).1) hb hbm, Lib.hid ho, Lib.hid ?_⟩ ?_
        · exact KB2.grown (kk5.out.alloc _) hgr (fun k hk => (rlt k hk).1)
        clear RUN k2A hOA bA hO5 row5 kk5 hgr ho hr rlt k2 hsz5
        rintro w6 ⟨hO6, row6, kk6⟩
        have k2 := obj_cell hO6.at_ (k := 2) rfl
        have f2 := obj_free hO6.at_ 2
        have FIN : Hid (∀ i, (f' i).isSome = true → nx + 1 ≤ i ∧ i < M) := Lib.hid (fun i hi => by
          have q := hk.out i hi
          have ne : i ≠ nx := by rintro rfl; rw [hf] at hi; simp at hi
          omega)
        have HF := Lib.hid hf
        clear hf
        go_wp2_with fail
        go_roundw
        case measure =>
          have q : (w6.setCell ⟨b, 2, none⟩ (.int .i64 (nx + 1))).cell? ⟨b, 2, none⟩ = some (.int .i64 (nx + 1)) := obj_cell (obj_set hO6.at_ 2 _) rfl
          rw [q, HK2.out]
          simp [intOf]
          omega
        case rel => exact ⟨L ++ [itemCells nx true 0 0 0 0 false (.slice none 0 0)], f', nx + 1, c', Lib.hid (.gone hp.out HF.out WT.out), ha, FIN, by omega, hcc, by omega, Lib.hid (by have q := rowI_set (j := 2) (u := .int .i64 (nx + 1)) row6.out hb; simpa using q), Lib.hid (by have := hlen.out; simp; omega), by omega, hO6.set (obj_set hO6.at_ 2 _), Lib.hid (Keeps.setCell kk6.out (.inl (.inl rfl)) _)⟩
    | some v =>
      obtain ⟨num, gone, s, t, l, lv, st, oa, bn, bc, at', rfl, t1, t2⟩ := ha.out nx v hf
      rw [hf] at hlook hlook2 hlook3
      simp only [Option.getD_some, Option.isSome_some] at hlook hlook2 hlook3
      have HF := Lib.hid hf
      clear hf
      go_upto_region 6 with fail
      go_cut [8, 9] from 23 to 69 (fun s8 s9 y => ∃ g, s8 = .pointer (some ⟨g, 0, none⟩) ∧ s9 = .bool true ∧ KeptAt y g num gone s t l lv st (.slice oa bn bc) at' ∧ Ord y b now wait nx bm c' f' ∧ Hid (y.ownsRow w.heap.size 81 8 _ L.length L.flatten) ∧ Hid (KB2 b bm w y))
      case first =>
        go_region
        all_goals (
          go_wp2_with fail
          go_meet
          refine ⟨_, rfl, rfl, obj_new _ _, hO.below (Below.drew ((Below.refl _ _).alloc (Nat.le_refl _) _)), by exact Lib.hid (hrow.out.alloc _), Lib.hid (Keeps.drew (kk.out.alloc _))⟩)
      case rest =>
      clear hO hrow kk hlook hlook2 hlook3 k2 k3 rowA
      obtain ⟨g, rfl, rfl, hg9, hO, hrow, kk⟩ := hcut
      have hlt : nx < M := (hk.out nx (by rw [HF.out]; rfl)).2
      have e0 := obj_cell hg9 (k := 0) rfl
      have e1 := obj_cell hg9 (k := 1) rfl
      have e2 := obj_cell hg9 (k := 2) rfl
      have e3 := obj_cell hg9 (k := 3) rfl
      have e4 := obj_cell hg9 (k := 4) rfl
      have e5 := obj_cell hg9 (k := 5) rfl
      have e6 := obj_cell hg9 (k := 6) rfl
      have e7 := obj_cell hg9 (k := 7) rfl
      have hl5 : L.length ≤ 1000000 := by have := hlen.out; omega
      have hsz5 := kk.out.size
      have RUN := Lib.hid (run_moreItem (World.alloc _ (.cells (itemCells num gone s t l lv st (.slice oa bn bc)).toArray 81)) w.heap.size _ num gone s t l lv st oa bn bc L.length _ (hrow.out.alloc _) _ (obj_new _ _) hl5 (by simp; omega))
      have rlt := (hrow.out.alloc (.cells (itemCells num gone s t l lv st (.slice oa bn bc)).toArray 81)).lt
      have hOA := hO.alloc (.cells (itemCells num gone s t l lv st (.slice oa bn bc)).toArray 81)
      have kkA : Hid (KB2 b bm w _) := Lib.hid (kk.out.alloc (.cells (itemCells num gone s t l lv st (.slice oa bn bc)).toArray 81))
      go_upto_region 10 with (at_builtin; obtain ⟨vN, wN, hr, ho, hgr⟩ := RUN.out; refine Lib.wpList_append_run _ rfl (.tmp 38) (.tmp 41) 45 45 rfl _ _ rfl rfl _ _ hr ?_)
      refine abs_at (fun y => Ord y b now wait nx bm c' f' ∧ Hid (y.ownsRow w.heap.size 81 8 vN (L.length + 1) (L.flatten ++ itemCells num gone s t l lv st (.slice oa bn bc))) ∧ Hid (KB2 b bm w y)) ⟨hOA.grown hgr (fun k hk => (rlt k hk).1) hb hbm, Lib.hid ho, Lib.hid (KB2.grown kkA.out hgr (fun k hk => (rlt k hk).1))⟩ ?_
      clear RUN hOA hO hrow kk kkA hgr ho hr rlt hsz5 e0 e1 e2 e3 e4 e5 e6 e7 hg9
      rintro w6 ⟨hO6, row6, kk6⟩
      have k2 := obj_cell hO6.at_ (k := 2) rfl
      have k3 := obj_cell hO6.at_ (k := 3) rfl
      go_still_tail 8, (by kernel_rfl)
      change wpList _ _ _ _ _ w6.drew
      have hO7 : Ord w6.drew b now wait nx bm c' f' := ⟨hO6.at_, hO6.map, hO6.ne⟩
      have row7 : Hid (w6.drew.ownsRow w.heap.size 81 8 vN (L.length + 1) (L.flatten ++ itemCells num gone s t l lv st (.slice oa bn bc))) := Lib.hid row6.out
      have kk7 : Hid (KB2 b bm w w6.drew) := Lib.hid (Keeps.drew kk6.out)
      clear hO6 row6 kk6 k2 k3
      generalize w6.drew = w7 at *
      go_upto_region 13 with (at_delete; refine wpList_mdel _ rfl (.tmp 46) (.tmp 50) 71 3 rfl 90 mlaw Tryd.underlying3 Tryd.underlying71 bm c' f' rfl hO7.map nx rfl hwn ?_; intro w8 hm8 hturn)
      have hgr := hturn.grown
      have hne := hO7.ne
      have at8 : OrderAt w8 b now wait nx bm := by
        have q := hgr.block b (lt_of_block hO7.at_) (by simp [hne])
        have a := hO7.at_
        unfold OrderAt at *
        rw [q]; exact a
      have hO8 := Ord.mk at8 hm8 hne
      have row8 : Hid (w8.ownsRow w.heap.size 81 8 vN (L.length + 1) (L.flatten ++ itemCells num gone s t l lv st (.slice oa bn bc))) := Lib.hid (rowI_keep row7.out (fun g o hg hM => hgr.block g (lt_of_block hg) (by simp; omega)))
      have kk8 : Hid (KB2 b bm w w8) := Lib.hid (Keeps.trans kk7.out ⟨hgr.os, hgr.tape, hgr.output, hgr.size, fun k hk hn => hgr.block k hk (by rintro e; simp at e; exact hn (.inr e))⟩)
      have FIN : Hid (∀ i, ((fun j => if j = nx then none else f' j) i).isSome = true → nx + 1 ≤ i ∧ i < M) := Lib.hid (fun i hi => by
        by_cases ne : i = nx
        · subst ne; simp at hi
        · simp [ne] at hi
          have q := hk.out i hi
          omega)
      have ALL : Hid (AllKept (fun j => if j = nx then none else f' j)) := Lib.hid (fun i v hv => by
        by_cases ne : i = nx
        · subst ne; simp at hv
        · simp [ne] at hv
          exact ha.out i v hv)
      have k2 := obj_cell at8 (k := 2) rfl
      have f2 := obj_free at8 2
      clear hturn hgr hO7 row7 kk7 hm8
      go_wp2_with fail
      go_roundw
      case measure =>
        have q : (w8.setCell ⟨b, 2, none⟩ (.int .i64 (nx + 1))).cell? ⟨b, 2, none⟩ = some (.int .i64 (nx + 1)) := obj_cell (obj_set at8 2 _) rfl
        rw [q, HK2.out]
        simp [intOf]
        omega
      case rel => exact ⟨L ++ [itemCells num gone s t l lv st (.slice oa bn bc)], fun j => if j = nx then none else f' j, nx + 1, _, Lib.hid (.has hp.out HF.out), ALL, FIN, by omega, by first | (split <;> omega) | omega, by omega, Lib.hid (by have q := rowI_set (j := 2) (u := .int .i64 (nx + 1)) row8.out hb; simpa using q), Lib.hid (by have := hlen.out; simp; omega), by omega, hO8.set (obj_set at8 2 _), Lib.hid (Keeps.setCell kk8.out (.inl (.inl rfl)) _)⟩
end Go.Proofs.YtlfdkoebjddokaaDoor
