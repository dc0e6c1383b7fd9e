import Derived.Test.YtmmfnalcdekkbaaDoorTreeCosts
import Derived.Laws.MakeOwn
import Derived.Deep.QuietTactic
import Derived.BigQuiet
/-! tree.Build. -/
namespace Go.Proofs.YtmmfnalcdekkbaaDoor
open Go.RowKit
set_option linter.unusedVariables false
set_option linter.unusedSimpArgs false
theorem infoIntT : (Tryd.prog.info? 3).map (fun i => (i.zero, i.size, i.bytes)) = some (some (.int .i64 0), 1, 8) := by kernel_rfl
theorem infoBoolT : (Tryd.prog.info? 4).map (fun i => (i.zero, i.size, i.bytes)) = some (some (.bool false), 1, 1) := by kernel_rfl
theorem madeOne (z : Value) (n : Nat) (h : z.cells = #[z]) : madeCells z.cells (n * 1) = Array.replicate n z := by
  rw [Nat.mul_one, h]
  refine Array.ext (by simp [madeCells]) (fun i h1 h2 => ?_)
  simp [madeCells, Nat.mod_one]
theorem make_ints (n : Nat) (hn : n ≤ 1000) (w : World) : (Instr.makeSlice 23 (.int .i64 (n : Int)) (.int .i64 (n : Int))).run Tryd.prog w = .ok (.slice (some ⟨w.heap.size, 0, none⟩) n n) (w.alloc (.cells (Array.replicate n (.int .i64 0)) 3)) := by
  obtain ⟨i0, hi, hz0, hz1, hz2⟩ := info_parts infoIntT
  have h := run_makeSlice (P := Tryd.prog) w 23 3 i0 _ Tryd.underlying23 hi hz0 .i64 .i64 (n : Int) (n : Int) (by omega) (by omega) (by rw [hz1]; simp; omega) (by rw [hz2]; omega) (by omega)
  rw [hz1] at h
  simp only [Int.toNat_natCast] at h
  rw [madeOne _ _ rfl] at h
  exact h
theorem make_bools (n : Nat) (hn : n ≤ 1000) (w : World) : (Instr.makeSlice 51 (.int .i64 (n : Int)) (.int .i64 (n : Int))).run Tryd.prog w = .ok (.slice (some ⟨w.heap.size, 0, none⟩) n n) (w.alloc (.cells (Array.replicate n (.bool false)) 4)) := by
  obtain ⟨i0, hi, hz0, hz1, hz2⟩ := info_parts infoBoolT
  have h := run_makeSlice (P := Tryd.prog) w 51 4 i0 _ Tryd.underlying51 hi hz0 .i64 .i64 (n : Int) (n : Int) (by omega) (by omega) (by rw [hz1]; simp; omega) (by rw [hz2]; omega) (by omega)
  rw [hz1] at h
  simp only [Int.toNat_natCast] at h
  rw [madeOne _ _ rfl] at h
  exact h
theorem costAt_eq (L : List Ed) (x i : Nat) (hi : i < 16) : costAt L (x * 16 + i) = Pl.costN L x i := by
  unfold costAt Pl.costN
  rw [show (x * 16 + i) / 16 = x by omega, show (x * 16 + i) % 16 = i by omega]
abbrev IntsAt (n : Nat) (w : World) (g : Nat) (D : Nat → Int) : Prop := ArrAt encI n 3 w g D
abbrev BoolsAt (n : Nat) (w : World) (g : Nat) (D : Nat → Bool) : Prop := ArrAt encBl n 4 w g D
/-- costs in memory, to be read -/
def MatC (w : World) (G : Nat) (L : List Ed) : Prop := ∀ j, j < 256 → w.cell? ⟨G, j, none⟩ = some (encI (costAt L j))
theorem MatC.block {w w' : World} {G : Nat} {L : List Ed} (h : MatC w G L) (e : w'.heap[G]? = w.heap[G]?) : MatC w' G L := fun j hj => by
  rw [World.cell?_of_block (w := w) (w' := w') (a := ⟨G, j, none⟩) e]; exact h j hj
theorem MatC.setOther {w : World} {G : Nat} {L : List Ed} (h : MatC w G L) {a : Addr} (ha : a.block ≠ G) (v : Value) : MatC (w.setCell a v) G L := h.block (Below.heap_setCell _ _ _ _ (Ne.symm ha))
theorem MatC.lt {w : World} {G : Nat} {L : List Ed} (h : MatC w G L) : G < w.heap.size := Sl.lt (a := ⟨G, 0, none⟩) (h 0 (by omega))
theorem MatC.of (w : World) (cs : Array Value) (L : List Ed) (h2 : cs.size = 256) (h3 : ∀ j, j < 256 → cs[j]? = some (encI (costAt L j))) : MatC ((w.alloc (.cells (Array.replicate 256 (.int .i64 0)) 49)).setCells w.heap.size 0 cs.toList) w.heap.size L := fun j hj => by
  have TH : (w.alloc (.cells (Array.replicate 256 (.int .i64 0)) 49)).there w.heap.size 0 cs.toList.length := fun j hj => by
    have ho := obj_new w (.cells (Array.replicate 256 (.int .i64 0)) 49)
    have hj' : j < 256 := by simp at hj; omega
    exact ⟨by rw [Nat.zero_add, obj_cell ho (v := .int .i64 0) (by simp [hj'])]; rfl, obj_free ho _⟩
  have := World.rangeAt_setCells_same _ w.heap.size 0 cs.toList TH j (encI (costAt L j)) (by simpa using h3 j hj)
  rwa [Nat.zero_add] at this
theorem there256 (w : World) (cs : Array Value) (h2 : cs.size = 256) : (w.alloc (.cells (Array.replicate 256 (.int .i64 0)) 49)).there w.heap.size 0 cs.size := fun j hj => by
  have ho := obj_new w (.cells (Array.replicate 256 (.int .i64 0)) 49)
  have hj' : j < 256 := by omega
  exact ⟨by rw [Nat.zero_add, obj_cell ho (v := .int .i64 0) (by simp [hj'])]; rfl, obj_free ho _⟩
theorem one256 (cs : Array Value) (L : List Ed) (h2 : cs.size = 256) (h3 : ∀ j, j < 256 → cs[j]? = some (encI (costAt L j))) : cs.all (·.oneCell') = true := by
  refine Array.all_eq_true_iff_forall_mem.2 (fun v hv => ?_)
  obtain ⟨j, hj, rfl⟩ := Array.getElem_of_mem hv
  have := h3 j (by omega)
  rw [Array.getElem?_eq_getElem hj] at this
  rw [Option.some.inj this]; rfl
theorem store256 (w : World) (cs : Array Value) (L : List Ed) (h2 : cs.size = 256) (h3 : ∀ j, j < 256 → cs[j]? = some (encI (costAt L j))) : (storeCells ⟨w.heap.size, 0, none⟩ cs.toList).run Tryd.prog (w.alloc (.cells (Array.replicate 256 (.int .i64 0)) 49)) = .ok () ((w.alloc (.cells (Array.replicate 256 (.int .i64 0)) 49)).setCells w.heap.size 0 cs.toList) := by
  have TH := there256 w cs h2
  have := run_storeCells_cells (P := Tryd.prog) w.heap.size 0 cs.toList 0 _ (fun j hj => (TH j (by simpa using hj)).1) (fun j hj => (TH j (by simpa using hj)).2) (fun v hv => (Array.all_eq_true_iff_forall_mem.1 (one256 cs L h2 h3)) v (by simpa using hv))
  simp only [Nat.add_zero] at this
  exact this
/-- what Build has made -/
structure TB (L : List Ed) (n N : Nat) (w : World) (G gD gP gB : Nat) (D P : Nat → Int) (dn : Nat → Bool) (z : World) : Prop where
  ma : MatC z G L
  da : IntsAt n z gD D
  pa : IntsAt n z gP P
  ba : BoolsAt n z gB dn
  ne : gD ≠ gP ∧ gD ≠ G ∧ gP ≠ G ∧ gB ≠ G ∧ gB ≠ gD ∧ gB ≠ gP
  lo : N ≤ G ∧ N ≤ gD ∧ N ≤ gP ∧ N ≤ gB
  kb : Below N w z
namespace TB
variable {L : List Ed} {n N : Nat} {w : World} {G gD gP gB : Nat} {D P : Nat → Int} {dn : Nat → Bool} {z : World}
theorem setD (h : TB L n N w G gD gP gB D P dn z) (k : Nat) (v : Int) : TB L n N w G gD gP gB (fun j => if j = k then v else D j) P dn (z.setCell ⟨gD, k, none⟩ (.int .i64 v)) :=
  ⟨h.ma.setOther (by have := h.ne; simp; omega) _, h.da.set k v, h.pa.setOther (by have := h.ne; simp; omega) _, h.ba.setOther (by have := h.ne; simp; omega) _, h.ne, h.lo, Below.setCell h.kb h.lo.2.1 _⟩
theorem setP (h : TB L n N w G gD gP gB D P dn z) (k : Nat) (v : Int) : TB L n N w G gD gP gB D (fun j => if j = k then v else P j) dn (z.setCell ⟨gP, k, none⟩ (.int .i64 v)) :=
  ⟨h.ma.setOther (by have := h.ne; simp; omega) _, h.da.setOther (by have := h.ne; simp; omega) _, h.pa.set k v, h.ba.setOther (by have := h.ne; simp; omega) _, h.ne, h.lo, Below.setCell h.kb h.lo.2.2.1 _⟩
theorem setB (h : TB L n N w G gD gP gB D P dn z) (k : Nat) (v : Bool) : TB L n N w G gD gP gB D P (fun j => if j = k then v else dn j) (z.setCell ⟨gB, k, none⟩ (.bool v)) :=
  ⟨h.ma.setOther (by have := h.ne; simp; omega) _, h.da.setOther (by have := h.ne; simp; omega) _, h.pa.setOther (by have := h.ne; simp; omega) _, h.ba.set k v, h.ne, h.lo, Below.setCell h.kb h.lo.2.2.2 _⟩
theorem drewN (h : TB L n N w G gD gP gB D P dn z) (k : Nat) : TB L n N w G gD gP gB D P dn (z.drewN k) :=
  ⟨h.ma.block rfl, h.da.block rfl, h.pa.block rfl, h.ba.block rfl, h.ne, h.lo, Below.drewN h.kb k⟩
theorem ext (h : TB L n N w G gD gP gB D P dn z) {D' P' : Nat → Int} (e : ∀ j, j < n → D j = D' j) (e2 : ∀ j, j < n → P j = P' j) : TB L n N w G gD gP gB D' P' dn z :=
  ⟨h.ma, h.da.ext e, h.pa.ext e2, h.ba, h.ne, h.lo, h.kb⟩
theorem cost (h : TB L n N w G gD gP gB D P dn z) (x i : Nat) (hx : x < 16) (hi : i < 16) : z.cell? ⟨G, x * 16 + i, none⟩ = some (.int .i64 (Pl.costN L x i)) := by
  have := h.ma (x * 16 + i) (by omega)
  rw [costAt_eq L x i hi] at this
  exact this
end TB
/-- .. before there are marks -/
structure TA (L : List Ed) (n N : Nat) (w : World) (G gD gP : Nat) (D P : Nat → Int) (z : World) : Prop where
  ma : MatC z G L
  da : IntsAt n z gD D
  pa : IntsAt n z gP P
  ne : gD ≠ gP ∧ gD ≠ G ∧ gP ≠ G
  lo : N ≤ G ∧ N ≤ gD ∧ N ≤ gP
  kb : Below N w z
namespace TA
variable {L : List Ed} {n N : Nat} {w : World} {G gD gP : Nat} {D P : Nat → Int} {z : World}
theorem setD (h : TA L n N w G gD gP D P z) (k : Nat) (v : Int) : TA L n N w G gD gP (fun j => if j = k then v else D j) P (z.setCell ⟨gD, k, none⟩ (.int .i64 v)) :=
  ⟨h.ma.setOther (by have := h.ne; simp; omega) _, h.da.set k v, h.pa.setOther (by have := h.ne; simp; omega) _, h.ne, h.lo, Below.setCell h.kb h.lo.2.1 _⟩
theorem setP (h : TA L n N w G gD gP D P z) (k : Nat) (v : Int) : TA L n N w G gD gP D (fun j => if j = k then v else P j) (z.setCell ⟨gP, k, none⟩ (.int .i64 v)) :=
  ⟨h.ma.setOther (by have := h.ne; simp; omega) _, h.da.setOther (by have := h.ne; simp; omega) _, h.pa.set k v, h.ne, h.lo, Below.setCell h.kb h.lo.2.2 _⟩
theorem ext (h : TA L n N w G gD gP D P z) {D' P' : Nat → Int} (e : ∀ j, j < n → D j = D' j) (e2 : ∀ j, j < n → P j = P' j) : TA L n N w G gD gP D' P' z :=
  ⟨h.ma, h.da.ext e, h.pa.ext e2, h.ne, h.lo, h.kb⟩
/-- the marks are made -/
theorem marks (h : TA L n N w G gD gP D P z) (hn : N ≤ z.heap.size) : TB L n N w G gD gP z.heap.size D P (fun _ => false) (z.alloc (.cells (Array.replicate n (.bool false)) 4)) :=
  ⟨h.ma.block (Below.heap_alloc _ _ _ h.ma.lt), h.da.block (Below.heap_alloc _ _ _ h.da.lt), h.pa.block (Below.heap_alloc _ _ _ h.pa.lt), ArrAt.new (enc := encBl) z 4 n false,
    ⟨h.ne.1, h.ne.2.1, h.ne.2.2, by have := h.ma.lt; omega, by have := h.da.lt; omega, by have := h.pa.lt; omega⟩, ⟨h.lo.1, h.lo.2.1, h.lo.2.2, hn⟩, h.kb.alloc hn _⟩
end TA
/-- the least one so far of those that are not done -/
def Sel (D : Nat → Int) (dn : Nat → Bool) (i : Nat) (at_ : Int) : Prop :=
  (at_ = -1 ∧ ∀ j, j < i → dn j = false → D j < 0) ∨ ∃ x : Nat, at_ = x ∧ x < i ∧ dn x = false ∧ 0 ≤ D x ∧ ∀ j, j < i → dn j = false → 0 ≤ D j → D x ≤ D j
theorem Sel.keep {D : Nat → Int} {dn : Nat → Bool} {i : Nat} {a : Int} (h : Sel D dn i a) (hk : ¬ (0 ≤ D i ∧ dn i = false ∧ (a < 0 ∨ D i < D a.toNat))) : Sel D dn (i + 1) a := by
  rcases h with ⟨rfl, h⟩ | ⟨x, rfl, h1, h2, h3, h4⟩
  · refine .inl ⟨rfl, fun j hj hd => ?_⟩
    by_cases e : j = i
    · subst e
      by_cases e2 : 0 ≤ D j
      · exact absurd ⟨e2, hd, .inl (by omega)⟩ hk
      · omega
    · exact h j (by omega) hd
  · refine .inr ⟨x, rfl, by omega, h2, h3, fun j hj hd h0 => ?_⟩
    by_cases e : j = i
    · subst e
      by_cases e2 : D x ≤ D j
      · exact e2
      · exact absurd ⟨h0, hd, .inr (by simp; omega)⟩ hk
    · exact h4 j (by omega) hd h0
theorem Sel.take {D : Nat → Int} {dn : Nat → Bool} {i : Nat} {a : Int} (h : Sel D dn i a) (h0 : 0 ≤ D i) (h1 : dn i = false) (h2 : a < 0 ∨ D i < D a.toNat) : Sel D dn (i + 1) (i : Int) := by
  refine .inr ⟨i, rfl, by omega, h1, h0, fun j hj hd hj0 => ?_⟩
  by_cases e : j = i
  · subst e; omega
  · rcases h with ⟨rfl, h⟩ | ⟨x, rfl, q1, q2, q3, q4⟩
    · have := h j (by omega) hd; omega
    · have := q4 j (by omega) hd hj0
      simp at h2
      omega
/-- how many are done, as memory has it -/
noncomputable def doneOf (g n : Nat) (w : World) : Nat := n - Pl.cnt (fun j => match w.cell? ⟨g, j, none⟩ with | some (.bool true) => true | _ => false) n
theorem cnt_congr {p q : Nat → Bool} (n : Nat) (h : ∀ i, i < n → p i = q i) : Pl.cnt p n = Pl.cnt q n :=
  Nat.le_antisymm (Pl.cnt_mono n (fun i hi e => by rw [← h i hi]; exact e)) (Pl.cnt_mono n (fun i hi e => by rw [h i hi]; exact e))
theorem doneOf_eq {n g : Nat} {w : World} {dn : Nat → Bool} (h : BoolsAt n w g dn) : doneOf g n w = n - Pl.cnt dn n := by
  unfold doneOf
  rw [cnt_congr n (fun i hi => ?_)]
  rw [h.cell i hi]
  cases dn i <;> simp
/-- parents up to a node -/
def ParU (n root : Nat) (C : Nat → Nat → Int) (D P : Nat → Int) (i : Nat) : Prop := (∀ j, j < i → if j ≠ root ∧ 0 ≤ D j then Pl.PBest n C D j 0 (P j) else P j = -1) ∧ ∀ j, i ≤ j → j < n → P j = -1
theorem ParU.next {n root : Nat} {C : Nat → Nat → Int} {D P : Nat → Int} {i : Nat} {b : Int} (h : ParU n root C D P i) (hb : if i ≠ root ∧ 0 ≤ D i then Pl.PBest n C D i 0 b else b = -1) : ParU n root C D (fun j => if j = i then b else P j) (i + 1) := by
  refine ⟨fun j hj => ?_, fun j hj hn => ?_⟩
  · by_cases e : j = i
    · subst e; simp only [if_pos]; exact hb
    · simp only [if_neg e]; exact h.1 j (by omega)
  · have e : j ≠ i := by omega
    simp only [if_neg e]; exact h.2 j (by omega) hn
/-- the fault of a Build -/
def Pl.BuildF (n : Int) (L : List Ed) (root f : Int) : Prop := (f ≠ 0 ∧ Pl.EdgesF n L f) ∨ (Pl.EdgesF n L 0 ∧ ¬ (0 ≤ root ∧ root < n) ∧ f = 1) ∨ (Pl.EdgesF n L 0 ∧ (0 ≤ root ∧ root < n) ∧ f = 0)
/-- what Build hands out, when all is right -/
def BuildE (L : List Ed) (n root : Nat) (N : Nat) (w : World) (e : Ending) (w' : World) : Prop :=
  ∃ (gP gD : Nat) (D P : Nat → Int), e = .returned (.tuple #[.slice (some ⟨gP, 0, none⟩) n n, .slice (some ⟨gD, 0, none⟩) n n, .nilIface]) ∧ IntsAt n w' gD D ∧ IntsAt n w' gP P ∧ N ≤ gD ∧ N ≤ gP ∧ Pl.Dj n root (Pl.costN L) D ∧ Pl.Par n root (Pl.costN L) D P ∧ Below N w w'
set_option maxRecDepth 100000 in
set_option maxHeartbeats 8000000 in
theorem build_ok (n : Nat) (root : Nat) (v : Value) (L : List Ed) (w : World) (hL0 : IsEds w v L) (hg : Pl.GoodE n L) (hr : root < n) :
    Calls Tryd.prog 9 #[.int .i64 n, v, .int .i64 root] w (BuildE L n root w.heap.size w) := by
  obtain ⟨oa, cp, rfl, hlc, hcm, -⟩ := eds_read hL0
  have HL := Lib.hid hL0
  have HG := Lib.hid hg
  have n1 := hg.n1
  have n2 := hg.n2
  have TC := Lib.hid ((treeCheck_any n _ L w hL0).mono (R' := fun e w' => e = .returned .nilIface ∧ Below w.heap.size w w') (fun e w' ⟨f, h1, h2, h3⟩ => by
    obtain rfl := h2.eq (Pl.EdgesF.good.2 hg)
    exact ⟨h1, h3⟩))
  have CO := Lib.hid (fun y (kk : Below w.heap.size w y) => costs_any n oa cp L y (hL0.below kk) hg)
  have AM := Lib.hid (fun y => among_any root n y)
  rw [show Pl.amB root n = true from (Pl.amB_iff _ _).2 (by omega)] at AM
  have hmk := make_ints n (by omega)
  have hmb := make_bools n (by omega)
  clear hL0 hg hlc hcm
  obtain ⟨N, hN⟩ : ∃ N, w.heap.size = N := ⟨_, rfl⟩
  have HN := Lib.hid hN
  rw [hN] at TC CO ⊢
  clear hN
  go_enter Tryd.func9, Tryd.ntmps9
  go_upto_region 6 with (first
    | (go_at_call 6; (with_reducible refine TC.out.mono ?_); rintro e w2 ⟨rfl, k⟩; have K := Lib.hid k; clear k)
    | (go_at_call 16; (with_reducible refine (AM.out _).mono ?_); rintro e w3 ⟨rfl, rfl⟩))
  have hz := zero256
  go_upto_region 7 with (go_at_call 20; (with_reducible refine (CO.out _ K.out).mono ?_); rintro e w4 ⟨cs, rfl, h2, h3, k⟩; have H2 := Lib.hid h2; have H3 := Lib.hid h3; have K4 := Lib.hid (K.out.trans (k.mono (by rw [← HN.out]; exact K.out.size))); clear h2 h3 k; have hst := store256 w4 cs L H2.out H3.out)
  clear hst
  refine abs_t (fun y => Hid (MatC y w4.heap.size L) ∧ Hid (Below N w y)) ⟨Lib.hid (MatC.of w4 cs L H2.out H3.out), Lib.hid (Below.setCellsE _ (by rw [← HN.out]; exact K4.out.size) _ _ _ (K4.out.alloc (by rw [← HN.out]; exact K4.out.size) _))⟩ ?_
  have HGN := Lib.hid (show N ≤ w4.heap.size by rw [← HN.out]; exact K4.out.size)
  generalize w4.heap.size = G at *
  clear hz H2 H3 K4 K CO TC AM
  rintro y ⟨MA, KB⟩
  have HKB := Lib.hid (show N ≤ y.heap.size by rw [← HN.out]; exact KB.out.size)
  go_cut [6, 7] from 33 to 36 (fun s6 s7 z => ∃ gP gD, s6 = .slice (some ⟨gP, 0, none⟩) n n ∧ s7 = .slice (some ⟨gD, 0, none⟩) n n ∧ Hid (TA L n N w G gD gP (fun _ => 0) (fun _ => 0) z))
  case first =>
    have HA1 := Lib.hid (ArrAt.new (enc := encI) y 3 n 0)
    have HA2 := Lib.hid (ArrAt.new (enc := encI) (y.alloc (.cells (Array.replicate n (.int .i64 0)) 3)) 3 n 0)
    have HT := Lib.hid (show ∀ gD gP, (gD = y.heap.size ∧ gP = y.heap.size + 1) ∨ (gD = y.heap.size + 1 ∧ gP = y.heap.size) → TA L n N w G gD gP (fun _ => 0) (fun _ => 0) ((y.alloc (.cells (Array.replicate n (.int .i64 0)) 3)).alloc (.cells (Array.replicate n (.int .i64 0)) 3)).drew from fun gD gP h => by
      have a1 : IntsAt n ((y.alloc (.cells (Array.replicate n (.int .i64 0)) 3)).alloc (.cells (Array.replicate n (.int .i64 0)) 3)).drew y.heap.size (fun _ => 0) := HA1.out.block (Below.heap_alloc _ _ _ (by simp))
      have a2 : IntsAt n ((y.alloc (.cells (Array.replicate n (.int .i64 0)) 3)).alloc (.cells (Array.replicate n (.int .i64 0)) 3)).drew (y.heap.size + 1) (fun _ => 0) := by
        have := HA2.out
        rw [World.size_alloc] at this
        exact this.block rfl
      have a3 : MatC ((y.alloc (.cells (Array.replicate n (.int .i64 0)) 3)).alloc (.cells (Array.replicate n (.int .i64 0)) 3)).drew G L := MA.out.block ((Below.heap_alloc _ _ _ (by have := MA.out.lt; simp; omega)).trans (Below.heap_alloc _ _ _ MA.out.lt))
      have a4 : Below N w ((y.alloc (.cells (Array.replicate n (.int .i64 0)) 3)).alloc (.cells (Array.replicate n (.int .i64 0)) 3)).drew := Below.drewN ((KB.out.alloc HKB.out _).alloc (by have := HKB.out; simp; omega) _) 1
      have hg := MA.out.lt
      have hk := HKB.out
      have hgn := HGN.out
      rcases h with ⟨rfl, rfl⟩ | ⟨rfl, rfl⟩
      · exact ⟨a3, a1, a2, by omega, by omega, a4⟩
      · exact ⟨a3, a2, a1, by omega, by omega, a4⟩)
    clear HA1 HA2 MA KB
    go_region
    all_goals
      go_wp2_with fail
      go_meet
      first
        | exact ⟨_, _, rfl, rfl, Lib.hid (HT.out _ _ (.inl ⟨rfl, rfl⟩))⟩
        | exact ⟨_, _, rfl, rfl, Lib.hid (HT.out _ _ (.inr ⟨rfl, rfl⟩))⟩
  case rest =>
  clear MA KB HKB hmk
  obtain ⟨gP, gD, rfl, rfl, TA0⟩ := hcut
  go_upto_region 9 with fail
  go_loopw [39] (fun s39 wr => ∃ i : Nat, i ≤ n ∧ s39 = .int .i64 i ∧ Hid (TA L n N w G gD gP (fun j => if j < i then -1 else 0) (fun j => if j < i then -1 else 0) wr)) (fun s39 _ => n - (intOf s39).toNat)
  case atStart => exact ⟨0, by omega, rfl, Lib.hid (TA0.out.ext (fun j _ => by simp) (fun j _ => by simp))⟩
  case round =>
    clear TA0
    obtain ⟨i, hi, rfl, T⟩ := hrel
    by_cases hlt : i < n
    · have hgp := T.out.ne.1
      have hgp' : gP ≠ gD := Ne.symm hgp
      have d0 := T.out.da.cell i hlt
      have d1 := T.out.da.free i
      have p0 := T.out.pa.cell i hlt
      have p1 := T.out.pa.free i
      have HN2 := Lib.hid (((T.out.setD i (-1)).setP i (-1)).ext (D' := fun j => if j < i + 1 then -1 else 0) (P' := fun j => if j < i + 1 then -1 else 0) (fun j _ => by
        by_cases e : j = i
        · simp [e]
        · have : j < i + 1 ↔ j < i := by omega
          simp [e, this]) (fun j _ => by
        by_cases e : j = i
        · simp [e]
        · have : j < i + 1 ↔ j < i := by omega
          simp [e, this]))
      clear T
      go_wp2_with fail
      go_roundw
      case measure => simp [intOf]; omega
      case rel => exact ⟨i + 1, by omega, by go_num, HN2⟩
    · obtain rfl : n = i := by omega
      have T1 := Lib.hid (T.out.ext (D' := fun _ => -1) (P' := fun _ => -1) (fun j hj => by simp [hj]) (fun j hj => by simp [hj]))
      clear T
      have d0 := T1.out.da.cell root hr
      have d1 := T1.out.da.free root
      have T2 := Lib.hid (T1.out.setD root 0)
      go_upto_region 14 with fail
      refine abs_t (fun z => Hid (TA L n N w G gD gP (fun j => if j = root then 0 else -1) (fun _ => -1) z)) T2 ?_
      clear T1 T2 d0 d1
      rintro z T
      obtain ⟨gB, hgB⟩ : ∃ gB, z.heap.size = gB := ⟨_, rfl⟩
      have TM := Lib.hid (T.out.marks (by rw [← HN.out]; exact T.out.kb.size))
      rw [hgB] at TM
      go_upto_region 15 with fail
      refine abs_t (fun y => Hid (TB L n N w G gD gP gB (fun j => if j = root then 0 else -1) (fun _ => -1) (fun _ => false) y)) TM ?_
      clear T TM hmb hgB
      rintro y T
      have HCO := Lib.hid (HG.out.cok n)
      go_loopw [13] (fun s13 wr => ∃ D dn, Hid (TB L n N w G gD gP gB D (fun _ => -1) dn wr) ∧ Hid (Pl.DInv n root (Pl.costN L) D dn)) (fun _ wr => doneOf gB n wr)
      case atStart => exact ⟨_, _, T, Lib.hid (Pl.DInv.start n root _)⟩
      case round =>
        clear T
        obtain ⟨D, dn, T, DI⟩ := hrel
        go_upto_region 17 with fail
        go_loop [13, 56] (fun s13 s56 => ∃ (i : Nat) (a : Int), i ≤ n ∧ s56 = .int .i64 i ∧ s13 = .int .i64 a ∧ (a = -1 ∨ ∃ x : Nat, x < i ∧ a = x) ∧ Hid (Sel D dn i a)) (fun _ s56 => n - (intOf s56).toNat)
        case atStart => exact ⟨0, -1, by omega, rfl, rfl, .inl rfl, Lib.hid (.inl ⟨rfl, fun j hj => by omega⟩)⟩
        case round =>
          obtain ⟨i, a, hi, rfl, rfl, ha, SL⟩ := hrel
          by_cases hlt : i < n
          · have d0 := T.out.da.cell i hlt
            have b0 := T.out.ba.cell i hlt
            have KP := Lib.hid (SL.out.keep)
            have TK := Lib.hid (SL.out.take)
            clear SL
            obtain ⟨bi, hbi⟩ : ∃ bi, dn i = bi := ⟨_, rfl⟩
            rw [hbi] at KP TK b0
            clear hbi
            obtain ⟨di, hdi⟩ : ∃ di, D i = di := ⟨_, rfl⟩
            rw [hdi] at KP TK d0
            have hlo : -1 ≤ di ∧ di ≤ 1000000000 := by
              have h1 := DI.out.lo i hlt
              have h2 := DI.out.hi i hlt
              have h3 := Pl.cnt_le dn n
              omega
            clear hdi
            obtain ⟨hl1, hl2⟩ := hlo
            rcases ha with rfl | ⟨x, hx, rfl⟩
            · by_cases h0 : 0 ≤ di
              · cases bi
                · have N1 := Lib.hid (TK.out h0 rfl (.inl (by omega)))
                  go_wp2_with fail
                  go_round
                  case measure => simp [intOf]; omega
                  case rel => exact ⟨i + 1, i, by omega, by go_num, rfl, .inr ⟨i, by omega, rfl⟩, N1⟩
                · have N1 := Lib.hid (KP.out (fun h => by cases h.2.1))
                  go_wp2_with fail
                  go_round
                  case measure => simp [intOf]; omega
                  case rel => exact ⟨i + 1, -1, by omega, by go_num, rfl, .inl rfl, N1⟩
              · have N1 := Lib.hid (KP.out (fun h => h0 h.1))
                go_wp2_with fail
                go_round
                case measure => simp [intOf]; omega
                case rel => exact ⟨i + 1, -1, by omega, by go_num, rfl, .inl rfl, N1⟩
            · have hxn : x < n := by omega
              have x0 := T.out.da.cell x hxn
              simp only [Int.toNat_natCast] at KP TK
              obtain ⟨dx, hdx⟩ : ∃ dx, D x = dx := ⟨_, rfl⟩
              rw [hdx] at KP TK x0
              clear hdx
              by_cases h0 : 0 ≤ di
              · cases bi
                · by_cases hlt2 : di < dx
                  · have N1 := Lib.hid (TK.out h0 rfl (.inr hlt2))
                    go_wp2_with fail
                    go_round
                    case measure => simp [intOf]; omega
                    case rel => exact ⟨i + 1, i, by omega, by go_num, rfl, .inr ⟨i, by omega, rfl⟩, N1⟩
                  · have N1 := Lib.hid (KP.out (fun h => by omega))
                    go_wp2_with fail
                    go_round
                    case measure => simp [intOf]; omega
                    case rel => exact ⟨i + 1, x, by omega, by go_num, rfl, .inr ⟨x, by omega, rfl⟩, N1⟩
                · have N1 := Lib.hid (KP.out (fun h => by cases h.2.1))
                  go_wp2_with fail
                  go_round
                  case measure => simp [intOf]; omega
                  case rel => exact ⟨i + 1, x, by omega, by go_num, rfl, .inr ⟨x, by omega, rfl⟩, N1⟩
              · have N1 := Lib.hid (KP.out (fun h => h0 h.1))
                go_wp2_with fail
                go_round
                case measure => simp [intOf]; omega
                case rel => exact ⟨i + 1, x, by omega, by go_num, rfl, .inr ⟨x, by omega, rfl⟩, N1⟩
          · obtain rfl : n = i := by omega
            rcases ha with rfl | ⟨x, hx, rfl⟩
            · have HD := Lib.hid (DI.out.done (fun j hj hd => by
                rcases SL.out with ⟨_, h⟩ | ⟨x, e, _⟩
                · exact h j hj hd
                · omega))
              clear SL DI
              go_upto_region 32 with fail
              go_loopw [130] (fun s130 wr => ∃ (i : Nat) (P : Nat → Int), i ≤ n ∧ s130 = .int .i64 i ∧ Hid (TB L n N w G gD gP gB D P dn wr) ∧ Hid (ParU n root (Pl.costN L) D P i)) (fun s130 _ => n - (intOf s130).toNat)
              case atStart => exact ⟨0, _, by omega, rfl, T, Lib.hid ⟨fun j hj => by omega, fun j _ _ => rfl⟩⟩
              case round =>
                clear T
                obtain ⟨i, P, hi, rfl, T, PU⟩ := hrel
                by_cases hlt : i < n
                · have d0 := T.out.da.cell i hlt
                  obtain ⟨wo, hwo⟩ : ∃ wo, wr = wo := ⟨_, rfl⟩
                  rw [hwo] at T d0 ⊢
                  clear hwo
                  have hn1 : IntKind.i64.wrap ((n : Int) - 1) = (n : Int) - 1 := by rw [IntKind.wrap_i64]; omega
                  go_upto_region 35 with fail
                  clear hn1
                  go_loopw [19] (fun s19 wi => ∃ (k : Nat) (b : Int), k ≤ n ∧ s19 = .int .i64 ((k : Int) - 1) ∧ Hid (TB L n N w G gD gP gB D (fun j => if j = i then b else P j) dn wi) ∧ Hid (if i ≠ root ∧ 0 ≤ D i then Pl.PBest n (Pl.costN L) D i k b else b = -1)) (fun s19 _ => (intOf s19 + 1).toNat)
                  case atStart =>
                    refine ⟨n, -1, Nat.le_refl _, rfl, Lib.hid (T.out.ext (fun _ _ => rfl) (fun j hj => ?_)), Lib.hid ?_⟩
                    · by_cases e : j = i
                      · subst e; rw [if_pos rfl]; exact PU.out.2 j (Nat.le_refl _) hj
                      · rw [if_neg e]
                    · by_cases e : i ≠ root ∧ 0 ≤ D i
                      · rw [if_pos e]; exact Pl.PBest.none
                      · rw [if_neg e]
                  case round =>
                    clear T
                    obtain ⟨k, b, hk, hs, T6, PB⟩ := hrel
                    rcases k with _ | kn
                    · have hs2 := hs.trans (show Value.int .i64 (((0 : Nat) : Int) - 1) = .int .i64 (-1) from rfl)
                      clear hs
                      subst hs2
                      clear d0
                      go_wp2_with fail
                      go_roundw
                      case measure => simp [intOf]; omega
                      case rel => exact ⟨i + 1, _, by omega, by go_num, T6, Lib.hid (PU.out.next PB.out)⟩
                    · have hs2 := hs.trans (show Value.int .i64 (((kn + 1 : Nat) : Int) - 1) = .int .i64 (kn : Int) from by congr 1; omega)
                      clear hs
                      subst hs2
                      have d1 := T6.out.da.cell i hlt
                      by_cases hir : i = root
                      · have PB1 := Lib.hid (show b = -1 by have := PB.out; rw [if_neg (fun h => h.1 hir)] at this; exact this)
                        have HIR := Lib.hid hir
                        have hne : ((i : Int) != (root : Int)) = false := by simp [hir]
                        clear hir d0
                        go_wp2_with fail
                        go_roundw
                        case measure => simp [intOf]; omega
                        case rel => exact ⟨i + 1, _, by omega, by go_num, T6, Lib.hid (PU.out.next (by rw [if_neg (fun h => h.1 HIR.out)]; exact PB1.out))⟩
                      · have hne : ((i : Int) != (root : Int)) = true := by simp; omega
                        have HIR := Lib.hid hir
                        clear hir d0
                        by_cases h0 : 0 ≤ D i
                        · have hkn : kn < n := by omega
                          have d2 := T6.out.da.cell kn hkn
                          have c0 := T6.out.cost kn i (by omega) (by omega)
                          have hcb := HCO.out.lo kn i
                          have hcb2 := HCO.out.hi kn i
                          have hkb := HD.out.lo kn hkn
                          have hkb2 := HD.out.hi kn hkn
                          have PT := Lib.hid (show (0 < Pl.costN L kn i ∧ D kn + Pl.costN L kn i = D i) → Pl.PBest n (Pl.costN L) D i kn (kn : Int) from fun h => Pl.PBest.hit hkn h)
                          have PM := Lib.hid (show ¬ (0 < Pl.costN L kn i ∧ D kn + Pl.costN L kn i = D i) → Pl.PBest n (Pl.costN L) D i kn b from fun h => Pl.PBest.miss (by have := PB.out; rw [if_pos ⟨HIR.out, h0⟩] at this; exact this) h)
                          have HP0 := Lib.hid (show ∀ b', Pl.PBest n (Pl.costN L) D i kn b' → (if i ≠ root ∧ 0 ≤ D i then Pl.PBest n (Pl.costN L) D i kn b' else b' = -1) from fun b' h => by rw [if_pos ⟨HIR.out, h0⟩]; exact h)
                          obtain ⟨di, hdi⟩ : ∃ x, D i = x := ⟨_, rfl⟩
                          obtain ⟨dk, hdk⟩ : ∃ x, D kn = x := ⟨_, rfl⟩
                          obtain ⟨c, hc⟩ : ∃ x, Pl.costN L kn i = x := ⟨_, rfl⟩
                          rw [hdi, hdk, hc] at PT PM
                          rw [hdi] at d1 h0
                          rw [hdk] at d2 hkb hkb2
                          rw [hc] at c0 hcb hcb2
                          clear hdi hdk hc PB
                          go_upto_region 37 with fail
                          go_cut [173] from 151 to 173 (fun v z => v = .bool (decide (0 < c ∧ dk + c = di)) ∧ Hid (TB L n N w G gD gP gB D (fun j => if j = i then b else P j) dn z))
                          case first =>
                            by_cases hc0 : 0 < c
                            · have hd : decide (0 < c) = true := by simp [hc0]
                              have hw : IntKind.i64.wrap (dk + c) = dk + c := by rw [IntKind.wrap_i64]; omega
                              have HE := Lib.hid (show (dk + c == di) = decide (0 < c ∧ dk + c = di) by rw [Bool.eq_iff_iff]; simp [hc0])
                              go_quiet (fail)
                              go_wp2_with fail
                              go_meet
                              exact ⟨by rw [← HE.out], Lib.hid (T6.out.drewN _)⟩
                            · have hd : decide (0 < c) = false := by simp [hc0]
                              have HE := Lib.hid (show false = decide (0 < c ∧ dk + c = di) by simp [hc0])
                              go_quiet (fail)
                              go_wp2_with fail
                              go_meet
                              exact ⟨by rw [← HE.out], Lib.hid (T6.out.drewN _)⟩
                          case rest =>
                          clear T6 d1 d2 c0
                          obtain ⟨rfl, T6⟩ := hcut
                          obtain ⟨r, hr⟩ : ∃ r, decide (0 < c ∧ dk + c = di) = r := ⟨_, rfl⟩
                          have HR := Lib.hid hr
                          rw [hr]
                          clear hr
                          cases r
                          · have PN := Lib.hid (HP0.out _ (PM.out (of_decide_eq_false HR.out)))
                            go_wp2_with fail
                            go_roundw
                            case measure => simp [intOf]
                            case rel => exact ⟨kn, b, by omega, rfl, T6, PN⟩
                          · have PN := Lib.hid (HP0.out _ (PT.out (of_decide_eq_true HR.out)))
                            have e0 := T6.out.pa.cell i hlt
                            have e1 := T6.out.pa.free i
                            have T7 := Lib.hid ((T6.out.setP i (kn : Int)).ext (P' := fun j => if j = i then (kn : Int) else P j) (fun _ _ => rfl) (fun j _ => by by_cases e : j = i <;> simp [e]))
                            clear T6
                            go_wp2_with fail
                            go_roundw
                            case measure => simp [intOf]
                            case rel => exact ⟨kn, kn, by omega, rfl, T7, PN⟩
                        · have PB1 := Lib.hid (show b = -1 by have := PB.out; rw [if_neg (fun h => h0 h.2)] at this; exact this)
                          have H0 := Lib.hid h0
                          obtain ⟨di, hdi⟩ : ∃ x, D i = x := ⟨_, rfl⟩
                          rw [hdi] at d1 h0
                          clear hdi
                          go_wp2_with fail
                          go_roundw
                          case measure => simp [intOf]; omega
                          case rel => exact ⟨i + 1, _, by omega, by go_num, T6, Lib.hid (PU.out.next (by rw [if_neg (fun h => H0.out h.2)]; exact PB1.out))⟩
                · obtain rfl : n = i := by omega
                  go_wp2_with fail
                  go_ret3
                  exact ⟨gP, gD, D, P, rfl, T.out.da, T.out.pa, T.out.lo.2.1, T.out.lo.2.2.1, HD.out, fun j hj => PU.out.1 j hj, T.out.kb⟩
            · have HS := Lib.hid (show dn x = false ∧ 0 ≤ D x ∧ ∀ j, j < n → dn j = false → 0 ≤ D j → D x ≤ D j by
                rcases SL.out with ⟨e, _⟩ | ⟨x', e, _, h1, h2, h3⟩
                · omega
                · obtain rfl : x = x' := by omega
                  exact ⟨h1, h2, h3⟩)
              clear SL
              have b0 := T.out.ba.cell x hx
              have b1 := T.out.ba.free x
              have T2 := Lib.hid (T.out.setB x true)
              go_upto_region 25 with fail
              refine abs_t (fun z => Hid (TB L n N w G gD gP gB D (fun _ => -1) (fun j => if j = x then true else dn j) z)) T2 ?_
              clear T2 b0 b1
              rintro z TZ
              go_loopw [90] (fun s90 wr => ∃ i : Nat, i ≤ n ∧ s90 = .int .i64 i ∧ Hid (TB L n N w G gD gP gB (fun j => if j < i then Pl.stepD (Pl.costN L) D x j else D j) (fun _ => -1) (fun j => if j = x then true else dn j) wr)) (fun s90 _ => n - (intOf s90).toNat)
              case atStart => exact ⟨0, by omega, rfl, Lib.hid (TZ.out.ext (fun j _ => by simp) (fun _ _ => rfl))⟩
              case round =>
                clear TZ
                obtain ⟨i, hi, rfl, TZ⟩ := hrel
                have hxx : (if x < i then Pl.stepD (Pl.costN L) D x x else D x) = D x := by
                  have : Pl.stepD (Pl.costN L) D x x = D x := by unfold Pl.stepD; rw [if_neg]; have := HCO.out.self x; omega
                  rw [this]; split <;> rfl
                by_cases hlt : i < n
                · have d0 := TZ.out.da.cell x hx
                  rw [hxx] at d0
                  have d1 := TZ.out.da.cell i hlt
                  rw [if_neg (by omega)] at d1
                  have f1 := TZ.out.da.free i
                  have c0 := TZ.out.cost x i (by omega) (by omega)
                  have hcb := HCO.out.lo x i
                  have hcb2 := HCO.out.hi x i
                  have hx0 := HS.out.2.1
                  have hx1 := DI.out.hi x hx
                  have hcn := Pl.cnt_le dn n
                  have hx2 : D x ≤ 1000000000 := by omega
                  have hi0 := DI.out.lo i hlt
                  have hi1 := DI.out.hi i hlt
                  have hi2 : D i ≤ 1000000000 := by omega
                  have ST := Lib.hid (show Pl.stepD (Pl.costN L) D x i = if 0 < Pl.costN L x i ∧ (D i < 0 ∨ D x + Pl.costN L x i < D i) then D x + Pl.costN L x i else D i from rfl)
                  have TK := Lib.hid (show Pl.stepD (Pl.costN L) D x i = D i → ∀ z, TB L n N w G gD gP gB (fun j => if j < i then Pl.stepD (Pl.costN L) D x j else D j) (fun _ => -1) (fun j => if j = x then true else dn j) z → TB L n N w G gD gP gB (fun j => if j < i + 1 then Pl.stepD (Pl.costN L) D x j else D j) (fun _ => -1) (fun j => if j = x then true else dn j) z from fun e z h => h.ext (fun j _ => by
                    by_cases q : j = i
                    · subst q; rw [if_neg (by omega), if_pos (by omega)]; exact e.symm
                    · have : j < i + 1 ↔ j < i := by omega
                      simp only [this]) (fun _ _ => rfl))
                  have TS := Lib.hid (show ∀ v, Pl.stepD (Pl.costN L) D x i = v → ∀ z, TB L n N w G gD gP gB (fun j => if j < i then Pl.stepD (Pl.costN L) D x j else D j) (fun _ => -1) (fun j => if j = x then true else dn j) z → TB L n N w G gD gP gB (fun j => if j < i + 1 then Pl.stepD (Pl.costN L) D x j else D j) (fun _ => -1) (fun j => if j = x then true else dn j) (z.setCell ⟨gD, i, none⟩ (.int .i64 v)) from fun v e z h => (h.setD i v).ext (fun j _ => by
                    by_cases q : j = i
                    · subst q; rw [if_pos rfl, if_pos (by omega)]; exact e.symm
                    · have : j < i + 1 ↔ j < i := by omega
                      simp only [this, if_neg q]) (fun _ _ => rfl))
                  obtain ⟨dx, hdx⟩ : ∃ q, D x = q := ⟨_, rfl⟩
                  obtain ⟨di, hdi⟩ : ∃ q, D i = q := ⟨_, rfl⟩
                  obtain ⟨c, hc⟩ : ∃ q, Pl.costN L x i = q := ⟨_, rfl⟩
                  obtain ⟨sv, hsv⟩ : ∃ q, Pl.stepD (Pl.costN L) D x i = q := ⟨_, rfl⟩
                  rw [hdx, hdi, hc, hsv] at ST
                  rw [hsv] at TS
                  rw [hsv, hdi] at TK
                  rw [hdx] at d0 hx0 hx2
                  rw [hdi] at d1 hi0 hi2
                  rw [hc] at c0 hcb hcb2
                  clear hdx hdi hc hsv hx1 hi1 hcn hxx
                  have hw : IntKind.i64.wrap (dx + c) = dx + c := by rw [IntKind.wrap_i64]; omega
                  go_upto_region 27 with fail
                  go_cut [17] from 93 to 102 (fun v z => v = .int .i64 (dx + c) ∧ Hid (TB L n N w G gD gP gB (fun j => if j < i then Pl.stepD (Pl.costN L) D x j else D j) (fun _ => -1) (fun j => if j = x then true else dn j) z) ∧ z.cell? ⟨gD, i, none⟩ = some (encI di) ∧ z.frozen? ⟨gD, i, none⟩ = false ∧ z.cell? ⟨G, x * 16 + i, none⟩ = some (.int .i64 c))
                  case first =>
                    go_quiet (fail)
                    go_wp2_with fail
                    go_meet
                    exact ⟨rfl, Lib.hid (TZ.out.drewN _), d1, f1, c0⟩
                  case rest =>
                  clear TZ d0 d1 f1 c0 hw
                  obtain ⟨rfl, TZ, d1, f1, c0⟩ := hcut
                  by_cases hc0 : 0 < c
                  · by_cases hd0 : di < 0
                    · have HV := Lib.hid (TS.out (dx + c) (by rw [ST.out, if_pos ⟨hc0, .inl hd0⟩]) _ TZ.out)
                      clear TZ ST TS TK
                      go_wp2_with fail
                      go_roundw
                      case measure => simp [intOf]; omega
                      case rel => exact ⟨i + 1, by omega, by go_num, HV⟩
                    · by_cases hd1 : dx + c < di
                      · have HV := Lib.hid (TS.out (dx + c) (by rw [ST.out, if_pos ⟨hc0, .inr hd1⟩]) _ TZ.out)
                        clear TZ ST TS TK
                        go_wp2_with fail
                        go_roundw
                        case measure => simp [intOf]; omega
                        case rel => exact ⟨i + 1, by omega, by go_num, HV⟩
                      · have HV := Lib.hid (TK.out (by rw [ST.out, if_neg (by omega)]) _ TZ.out)
                        clear TZ ST TS TK
                        go_wp2_with fail
                        go_roundw
                        case measure => simp [intOf]; omega
                        case rel => exact ⟨i + 1, by omega, by go_num, HV⟩
                  · have HV := Lib.hid (TK.out (by rw [ST.out, if_neg (fun h => hc0 h.1)]) _ TZ.out)
                    clear TZ ST TS TK
                    go_wp2_with fail
                    go_roundw
                    case measure => simp [intOf]; omega
                    case rel => exact ⟨i + 1, by omega, by go_num, HV⟩
                · obtain rfl : n = i := by omega
                  have TE := Lib.hid (TZ.out.ext (D' := Pl.stepD (Pl.costN L) D x) (fun j hj => by rw [if_pos hj]) (fun _ _ => rfl))
                  have DE := Lib.hid (DI.out.step HCO.out x hx HS.out.1 HS.out.2.1 HS.out.2.2)
                  clear TZ hxx
                  go_wp2_with fail
                  go_roundw
                  case measure =>
                    rw [doneOf_eq TE.out.ba, doneOf_eq T.out.ba, Pl.cnt_set n x hx HS.out.1]
                    have := Pl.cnt_lt_n (p := dn) n x hx HS.out.1
                    omega
                  case rel => exact ⟨_, _, TE, DE⟩
end Go.Proofs.YtmmfnalcdekkbaaDoor
