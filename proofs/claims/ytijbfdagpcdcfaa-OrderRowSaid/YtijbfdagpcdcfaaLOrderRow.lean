import Derived.Test.YtijbfdagpcdcfaaPRow
import Derived.Test.YtijbfdagpcdcfaaMapCnt
import Derived.Lib.SmallJoins
import Derived.Laws.OwnMore
/-! The walk of the law OrderRow. -/
namespace Go.Proofs.Ytijbfdagpcdcfaa
open Go.RowKit
set_option linter.unusedVariables false
set_option linter.unusedSimpArgs false
theorem flat8 : ∀ (L : List (List Value)) (k j : Nat) (x : List Value), (∀ y ∈ L, y.length = 8) → L[k]? = some x → j < 8 → L.flatten[k * 8 + j]? = x[j]?
  | [], _, _, _, _, h, _ => by simp at h
  | y :: r, k, j, x, h, hk, hj => by
    have hy : y.length = 8 := h y (by simp)
    cases k with
    | zero =>
      simp at hk
      subst hk
      simp only [List.flatten_cons, Nat.zero_mul, Nat.zero_add]
      rw [List.getElem?_append_left (by omega)]
    | succ k =>
      simp at hk
      simp only [List.flatten_cons]
      rw [List.getElem?_append_right (by omega), show (k + 1) * 8 + j - y.length = k * 8 + j by omega]
      exact flat8 r k j x (fun z hz => h z (by simp [hz])) hk hj
/-- the memory of the law -/
structure RM (w : World) (b P : Nat) (wait cur nx : Int) (bm c : Nat) (f : Int → Option Value) (p : Nat → Bool) (y : World) : Prop where
  ord : Ord y b cur wait nx bm c f
  marks : MarksAt 38 y P p
  kb : Below w.heap.size w y
theorem RM.below {w y z : World} {b P : Nat} {wait cur nx : Int} {bm c : Nat} {f : Int → Option Value} {p : Nat → Bool} (h : RM w b P wait cur nx bm c f p y) (k : Below y.heap.size y z) : RM w b P wait cur nx bm c f p z :=
  ⟨h.ord.below k, h.marks.block (k.block P h.marks.lt), h.kb.trans (k.mono h.kb.size)⟩
theorem RM.call {w y z : World} {b P : Nat} {wait cur nx cur' nx' : Int} {bm c c' : Nat} {f f' : Int → Option Value} {p : Nat → Bool} (h : RM w b P wait cur nx bm c f p y) (o : Ord z b cur' wait nx' bm c' f') (k : KB2 b bm y z) (h1 : w.heap.size ≤ b) (h2 : w.heap.size ≤ bm) (h3 : P ≠ b) (h4 : P ≠ bm) : RM w b P wait cur' nx' bm c' f' p z :=
  ⟨o, h.marks.keep k (by rintro (h | h) <;> contradiction), h.kb.trans (Keeps.below k h.kb.size (fun j hj e => by rcases e with e | e <;> omega))⟩
theorem RM.mark {w y : World} {b P : Nat} {wait cur nx : Int} {bm c : Nat} {f : Int → Option Value} {p : Nat → Bool} (h : RM w b P wait cur nx bm c f p y) (h0 : w.heap.size ≤ P) (h3 : P ≠ b) (h4 : P ≠ bm) (k : Nat) : RM w b P wait cur nx bm c f (fun j => if j = k then true else p j) (y.setCell ⟨P, k, none⟩ (.bool true)) :=
  ⟨h.ord.setOther h3 h4, h.marks.set k true, h.kb.setCell h0 _⟩
/-- what a row of items reads as -/
theorem row_read {w : World} {M : Nat} {T : TypeId} {v : Value} {L : List (List Value)} (h : w.ownsRow M T 8 v L.length L.flatten) (h8 : ∀ y ∈ L, y.length = 8) :
    ∃ (oa : Option Addr) (cap : Nat), v = .slice oa L.length cap ∧ ∀ (kk : Nat) x, L[kk]? = some x → ∃ g, oa = some ⟨g, 0, none⟩ ∧ g < w.heap.size ∧ ∀ j u, x[j]? = some u → w.cell? ⟨g, kk * 8 + j, none⟩ = some u := by
  rcases Joins.ownsRow_forms h with ⟨rfl, h0⟩ | ⟨g, cap, rfl⟩
  · refine ⟨none, 0, by rw [h0], fun kk x hx => ?_⟩
    rw [List.getElem?_eq_none (by omega)] at hx
    cases hx
  · refine ⟨_, cap, rfl, fun kk x hx => ⟨g, rfl, (h.lt g rfl).2, fun j u hu => ?_⟩⟩
    have hk := (List.getElem?_eq_some_iff.1 hx).1
    have hj : j < 8 := by
      have q := h8 x (List.mem_of_getElem? hx)
      have := (List.getElem?_eq_some_iff.1 hu).1
      omega
    rw [h.cellAt (kk * 8 + j) (by omega), flat8 L kk j x h8 hx hj, hu]
theorem row_len {L : List (List Value)} {nx : Int} {p : Nat → Bool} (hx : ∀ k : Nat, ∀ x, L[k]? = some x → ∃ (s : Int) (oa : Option Addr) (bc : Nat), x = itemCells (nx + k) (!p (nx + k).toNat) s 0 0 0 false (.slice oa 0 bc) ∧ (p (nx + k).toNat = true → s = nx + k)) : ∀ y ∈ L, y.length = 8 := fun y hy => by
  obtain ⟨k, hk⟩ := List.getElem?_of_mem hy
  obtain ⟨s, oa, bc, rfl, _⟩ := hx k y hk
  rfl
/-- what a row of items of the order reads as, cell by cell -/
def RowCells (w : World) (oa : Option Addr) (m n : Nat) (p : Nat → Bool) : Prop := ∀ kk, kk < n → ∃ (g : Nat) (s : Int) (ob : Option Addr) (bc : Nat), oa = some ⟨g, 0, none⟩ ∧ (p (m + kk) = true → s = ((m + kk : Nat) : Int)) ∧ ∀ y, Below w.heap.size w y →
  y.cell? ⟨g, kk * 8, none⟩ = some (.int .i64 ((m + kk : Nat) : Int)) ∧ y.cell? ⟨g, kk * 8 + 1, none⟩ = some (.bool (!p (m + kk))) ∧ y.cell? ⟨g, kk * 8 + 2, none⟩ = some (.int .i64 s) ∧ y.cell? ⟨g, kk * 8 + 3, none⟩ = some (.int .i64 0) ∧ y.cell? ⟨g, kk * 8 + 4, none⟩ = some (.int .i64 0) ∧ y.cell? ⟨g, kk * 8 + 5, none⟩ = some (.int .i64 0) ∧ y.cell? ⟨g, kk * 8 + 6, none⟩ = some (.bool false) ∧ y.cell? ⟨g, kk * 8 + 7, none⟩ = some (.slice ob 0 bc)
theorem row_cells {w : World} {M : Nat} {T : TypeId} {v : Value} {L : List (List Value)} {m : Nat} {p : Nat → Bool} (h : w.ownsRow M T 8 v L.length L.flatten)
    (hx : ∀ k : Nat, ∀ x, L[k]? = some x → ∃ (s : Int) (oa : Option Addr) (bc : Nat), x = itemCells ((m : Int) + k) (!p ((m : Int) + k).toNat) s 0 0 0 false (.slice oa 0 bc) ∧ (p ((m : Int) + k).toNat = true → s = (m : Int) + k)) :
    ∃ (oa : Option Addr) (cap : Nat), v = .slice oa L.length cap ∧ RowCells w oa m L.length p := by
  obtain ⟨oa, cap, rfl, hc⟩ := row_read h (row_len hx)
  refine ⟨oa, cap, rfl, fun kk hk => ?_⟩
  have hg : L[kk]? = some L[kk] := List.getElem?_eq_getElem hk
  obtain ⟨s, ob, bc, e, hs⟩ := hx kk _ hg
  obtain ⟨g, rfl, hl, hcell⟩ := hc kk _ hg
  rw [e, show ((m : Int) + (kk : Int)) = ((m + kk : Nat) : Int) by omega, Int.toNat_natCast] at hcell
  rw [show ((m : Int) + (kk : Int)) = ((m + kk : Nat) : Int) by omega, Int.toNat_natCast] at hs
  refine ⟨g, s, ob, bc, rfl, hs, fun y hy => ⟨?_, ?_, ?_, ?_, ?_, ?_, ?_, ?_⟩⟩
  · exact (hy.cell (p := ⟨g, kk * 8, none⟩) hl).trans (hcell 0 _ rfl)
  · exact (hy.cell (p := ⟨g, kk * 8 + 1, none⟩) hl).trans (hcell 1 _ rfl)
  · exact (hy.cell (p := ⟨g, kk * 8 + 2, none⟩) hl).trans (hcell 2 _ rfl)
  · exact (hy.cell (p := ⟨g, kk * 8 + 3, none⟩) hl).trans (hcell 3 _ rfl)
  · exact (hy.cell (p := ⟨g, kk * 8 + 4, none⟩) hl).trans (hcell 4 _ rfl)
  · exact (hy.cell (p := ⟨g, kk * 8 + 5, none⟩) hl).trans (hcell 5 _ rfl)
  · exact (hy.cell (p := ⟨g, kk * 8 + 6, none⟩) hl).trans (hcell 6 _ rfl)
  · exact (hy.cell (p := ⟨g, kk * 8 + 7, none⟩) hl).trans (hcell 7 _ rfl)
/-- 400 marks, none set -/
def marks0 : Array Value := Array.replicate 400 (.bool false)
theorem zero400 (w : World) : (zeroValue 38).run Try.prog w = .ok (.agg marks0) w := by kernel_rfl
theorem MarksAt.new (T : TypeId) (w : World) : MarksAt T (w.alloc (.cells marks0 T)) w.heap.size (fun _ => false) :=
  ⟨marks0, obj_new _ _, by simp [marks0], fun j hj => by simp [marks0, hj]⟩
theorem pk0 (b bm : Nat) (w : World) : ∀ W, KB2 b bm w W → IsBytes W (.slice none 0 0) [] := fun _ _ => Sl.nil _
/-- what the law asks first -/
theorem RowSt.fact {p : Nat → Bool} {f f' : Int → Option Value} {L : List (List Value)} {nx : Int} (h : RowSt 0 7 p f) (h8 : p 8 = false) (h9 : p 9 = true) (hm : ∀ j, p j = true → j < 10) (hp : Pops 5 5 f 7 L f' nx) (hw : ¬ Waited f' 5 5) :
    L.length = 3 ∧ L.flatten[9]? = some (.bool true) ∧ L.flatten[18]? = some (.int .i64 9) := by
  obtain ⟨h', e, hx⟩ := h.pop (by decide) hp
  obtain ⟨hz, hn⟩ := h'.done (by omega) hw (by decide)
  have hb := hp.bound (M := 10) (fun i hi => by
    have := h.keys (by decide) i hi
    obtain ⟨j, rfl⟩ := Int.eq_ofNat_of_zero_le (show 0 ≤ i by omega)
    have := hm j ((h.there j).1 hi).1
    omega) (by decide)
  have h9' : ¬ nx ≤ 9 := fun q => by have := hn 9 q; rw [h9] at this; cases this
  have hl : L.length = 3 := by omega
  have h8L : ∀ y ∈ L, y.length = 8 := fun y hy => by
    obtain ⟨k, hk⟩ := List.getElem?_of_mem hy
    obtain ⟨s, oa, bc, rfl, _⟩ := hx k y hk
    rfl
  refine ⟨hl, ?_, ?_⟩
  · have hk : L[1]? = some L[1] := List.getElem?_eq_getElem (by omega)
    obtain ⟨s, oa, bc, q, _⟩ := hx 1 _ hk
    have := flat8 L 1 1 _ h8L hk (by decide)
    rw [q] at this
    rw [show (7 + ((1 : Nat) : Int)).toNat = 8 from rfl, h8] at this
    exact this
  · have hk : L[2]? = some L[2] := List.getElem?_eq_getElem (by omega)
    obtain ⟨s, oa, bc, q, q2⟩ := hx 2 _ hk
    have := flat8 L 2 2 _ h8L hk (by decide)
    rw [q] at this
    have hs := q2 (by rw [show (7 + ((2 : Nat) : Int)).toNat = 9 from rfl]; exact h9)
    rw [hs] at this
    exact this
theorem RowSt.first7 (oa : Option Addr) (cc : Nat) : ∃ p f, Pl.keepF (fun _ => Option.none) 7 7 (keptV 7 false 7 0 0 0 false (.slice oa 0 cc) 0) = f ∧ RowSt 0 7 p f ∧ p 8 = false ∧ p 9 = false ∧ ∀ j, p j = true → j < 8 := by
  refine ⟨_, _, rfl, RowSt.start.push 7 (by decide) 7 (by decide) (by decide) oa cc, by simp, by simp, fun j hj => ?_⟩
  simp at hj
  omega
theorem RowSt.next9 {p : Nat → Bool} {f : Int → Option Value} (h : RowSt 0 7 p f) (h8 : p 8 = false) (h9 : p 9 = false) (hm : ∀ j, p j = true → j < 8) (oa : Option Addr) (cc : Nat) :
    ∃ p' f', Pl.keepF f 9 7 (keptV 9 false 9 0 0 0 false (.slice oa 0 cc) 0) = f' ∧ RowSt 0 7 p' f' ∧ p' 8 = false ∧ p' 9 = true ∧ ∀ j, p' j = true → j < 10 := by
  refine ⟨_, _, rfl, h.push 9 (by decide) 7 (by decide) (by decide) oa cc, by simp [h9, h8], by simp [h9], fun j hj => ?_⟩
  simp [h9] at hj
  rcases hj with hj | hj
  · omega
  · have := hm j hj; omega
set_option maxRecDepth 100000 in
set_option maxHeartbeats 8000000 in
theorem walk_OrderRow_run (w : World) (wait : Int) (oa1 : Option Addr) (n1 c1 : Nat) (z1 : Nat → Int) (hm1 : n1 ≤ maxLen) (hz1 : ∀ k, k < n1 → ∃ b f, oa1 = some ⟨b, f, none⟩ ∧ b < w.heap.size ∧ w.cell? ⟨b, f + k, none⟩ = some (.int .i64 (z1 k)) ∧ -9223372036854775808 ≤ z1 k ∧ z1 k ≤ 9223372036854775807)
    (oa2 : Option Addr) (n2 c2 : Nat) (z2 : Nat → Int) (hm2 : n2 ≤ maxLen) (hz2 : ∀ k, k < n2 → ∃ b f, oa2 = some ⟨b, f, none⟩ ∧ b < w.heap.size ∧ w.cell? ⟨b, f + k, none⟩ = some (.int .i64 (z2 k)) ∧ -9223372036854775808 ≤ z2 k ∧ z2 k ≤ 9223372036854775807) :
    Calls Try.prog 3 #[.int .i64 wait, .slice oa1 n1 c1, .slice oa2 n2 c2] w fun e w' => e = .returned (.bool true) ∧ Below w.heap.size w w' := by
  have HZ1 := Lib.hid hz1
  have HZ2 := Lib.hid hz2
  clear hz1 hz2
  unfold maxLen at hm1 hm2
  go_enter Try.func3, Try.ntmps3
  go_wp2_with fail
  refine (orderNew_ok 5 (by omega) (by omega) _).mono ?_
  rintro e w1 ⟨b, bm, rfl, hb, hbm, hne, g1, m1, k1⟩
  have O1 : Ord w1 b 0 5 (-1) bm 0 (fun _ => none) := ⟨g1, m1, hne⟩
  have S1 := RowSt.start
  have HB := Lib.hid (show w.heap.size ≤ b ∧ w.heap.size ≤ bm from ⟨hb, hbm⟩)
  clear g1 m1
  go_wp2_with fail
  refine (orderPush_ok w1 b 0 5 (-1) 0 bm 0 (fun _ => none) 7 7 (Lib.hid (by simp)) ⟨by decide, by decide, by decide⟩ (by decide) (by decide) (by decide) (S1.all (by decide)) (by decide) (by decide) 7 0 0 0 false _ [] (by decide) (pk0 _ _ _) O1).mono ?_
  rw [show Pl.fresh (fun _ => none) 7 7 = true from by decide]
  rintro e w2 ⟨oa, cc, c', rfl, O2, hc2, -, k2⟩
  obtain ⟨p2, f2, ef, S2, s8, s9, sm⟩ := RowSt.first7 oa cc
  simp only [List.length_nil] at O2
  rw [ef] at O2
  have kb2 : Below w.heap.size w w2 := k1.trans (Keeps.below k2 k1.size (fun j hj e => by rcases e with e | e <;> omega))
  clear O1 S1 ef k1 k2
  have SH := Lib.hid (show p2 8 = false ∧ p2 9 = false ∧ ∀ j, p2 j = true → j < 8 from ⟨s8, s9, sm⟩)
  clear s8 s9 sm
  go_wp2_with fail
  refine (orderPush_ok w2 b 0 5 7 0 bm c' f2 9 7 (Lib.hid (by decide)) ⟨by decide, by decide, by decide⟩ (by decide) (by decide) (by decide) (S2.all (by decide)) (by decide) (by omega) 9 0 0 0 false _ [] (by decide) (pk0 _ _ _) O2).mono ?_
  rw [show Pl.fresh f2 9 7 = true from by have q := S2.fresh 9 (by decide) 7 (by decide); rw [SH.out.2.1] at q; exact q]
  rintro e w3 ⟨oa, cc, c3, rfl, O3, hc3, -, k3⟩
  obtain ⟨p3, f3, ef, S3, s8, s9, sm⟩ := RowSt.next9 S2 SH.out.1 SH.out.2.1 SH.out.2.2 oa cc
  simp only [List.length_nil] at O3
  rw [ef] at O3
  have kb3 : Below w.heap.size w w3 := kb2.trans (Keeps.below k3 kb2.size (fun j hj e => by rcases e with e | e <;> omega))
  clear O2 S2 ef kb2 k3 SH
  have SH := Lib.hid (show p3 8 = false ∧ p3 9 = true ∧ ∀ j, p3 j = true → j < 10 from ⟨s8, s9, sm⟩)
  clear s8 s9 sm
  go_wp2_with fail
  refine (orderPop_any b 0 5 7 5 bm c3 f3 150 (S3.all (by decide)) (S3.keys (by decide)) (by decide) (by decide) (by decide) (by decide) ⟨by decide, by decide, by decide⟩ _ O3).mono ?_
  rintro e w4 ⟨L, f', nx, c4, v4, rfl, hp, -, hw, row4, O4, hc4, k4⟩
  obtain ⟨hl, e9, e18⟩ := S3.fact SH.out.1 SH.out.2.1 SH.out.2.2 hp hw
  obtain ⟨g4, cap4, rfl⟩ := Joins.ownsRow_form row4 (by omega)
  have q9 := row4.cellAt 9 (by omega)
  have q18 := row4.cellAt 18 (by omega)
  rw [e9] at q9
  rw [e18] at q18
  rw [hl]
  have kb4 : Below w.heap.size w w4 := kb3.trans (Keeps.below k4 kb3.size (fun j hj e => by rcases e with e | e <;> omega))
  clear hp hw row4 O4 hc4 k4 hl e9 e18 O3 S3 SH kb3 hb hbm hne hc2 hc3 HB
  go_upto_region 9 with fail
  refine abs_at (fun y => Below w.heap.size w y) kb4 ?_
  clear kb4 q9 q18
  rintro w5 kb5
  as_aux_lemma =>
  by_cases hw0 : 0 ≤ wait ∧ wait ≤ 1000000
  · obtain ⟨hwa, hwb⟩ := hw0
    go_wp2_with fail
    refine (orderNew_ok wait hwa hwb _).mono ?_
    rintro e w6 ⟨b, bm, rfl, hb, hbm, hne, g1, m1, k1⟩
    by_cases hwc : wait ≤ 1000
    · have O6 : Ord w6 b 0 wait (-1) bm 0 (fun _ => none) := ⟨g1, m1, hne⟩
      have kb6 : Below w.heap.size w w6 := kb5.trans (k1.mono kb5.size)
      have hb' : w.heap.size ≤ b := Nat.le_trans kb5.size hb
      have hbm' : w.heap.size ≤ bm := Nat.le_trans kb5.size hbm
      clear g1 m1 k1 kb5 hb hbm
      have hz4 := zero400
      go_upto_region 15 with fail
      clear hz4
      refine abs_at (fun y => RM w b w6.heap.size wait 0 (-1) bm 0 (fun _ => none) (fun _ => false) y) ⟨O6.alloc _, MarksAt.new _ _, kb6.alloc kb6.size _⟩ ?_
      have hPb : w6.heap.size ≠ b := by have := lt_of_block O6.at_; omega
      have hPm : w6.heap.size ≠ bm := by have := O6.map.lt; omega
      have hPw : w.heap.size ≤ w6.heap.size := kb6.size
      clear O6 kb6
      generalize w6.heap.size = P at *
      rintro w7 R0
      as_aux_lemma =>
      have HB := Lib.hid (show w.heap.size ≤ b ∧ w.heap.size ≤ bm ∧ w.heap.size ≤ P ∧ P ≠ b ∧ P ≠ bm from ⟨hb', hbm', hPw, hPb, hPm⟩)
      clear hb' hbm' hPw hPb hPm hne
      have R7 := Lib.hid R0
      clear R0
      have S7 := Lib.hid RowSt.start
      go_wp2_with fail
      go_loopw [17, 18, 20] (fun s17 s18 s20 wr => ∃ (k : Nat) (now nx cur : Int) (c : Nat) (f : Int → Option Value) (p : Nat → Bool), k ≤ n1 ∧ k ≤ 80 ∧ s20 = .int .i64 k ∧ s17 = .int .i64 now ∧ s18 = .int .i64 nx ∧ 0 ≤ now ∧ now ≤ k * 1000 ∧ -1 ≤ nx ∧ nx ≤ 150 ∧ c ≤ k ∧ cur ≤ now ∧ Hid (RM w b P wait cur nx bm c f p wr) ∧ Hid (RowSt now nx p f)) (fun _ _ s20 _ => 80 - (intOf s20).toNat)
      case atStart => exact ⟨0, 0, -1, 0, 0, _, _, by omega, by omega, rfl, rfl, rfl, by omega, by omega, by omega, by omega, by omega, by omega, R7, S7⟩
      case round =>
        as_aux_lemma =>
        clear R7 S7 w7
        obtain ⟨k, now, nx, cur, c, f, p, hk, hk80, rfl, rfl, rfl, hn0, hn1, hx0, hx1, hck, hcur, R, S⟩ := hrel
        by_cases hlt : k < n1 ∧ k < 80
        · obtain ⟨hlt1, hlt2⟩ := hlt
          obtain ⟨a1, o1, rfl, hlt0, qz, qz0, qz1⟩ := HZ1.out k hlt1
          have QZ := Lib.hid (fun (y : World) (h : Below w.heap.size w y) => (h.cell (p := ⟨a1, o1 + k, none⟩) hlt0).trans qz)
          clear qz hlt0
          generalize z1 k = n at *
          have hg2 : ∃ g, g = (decide (k < n2) && (decide (0 ≤ z2 k) && decide (z2 k < 1000))) := ⟨_, rfl⟩
          obtain ⟨g, hg⟩ := hg2
          have HG := Lib.hid hg
          clear hg
          go_upto_region 18 with fail
          go_cut [140] (fun v x => v = .bool g ∧ wr = x)
          case first =>
            as_aux_lemma =>
            by_cases hl2 : k < n2
            · obtain ⟨a2, o2, rfl, hlt0, qz, y0, y1⟩ := HZ2.out k hl2
              have q2 := (R.out.kb.cell (p := ⟨a2, o2 + k, none⟩) hlt0).trans qz
              clear qz hlt0
              generalize z2 k = zz at *
              by_cases h1 : 0 ≤ zz
              · by_cases h2 : zz < 1000
                · have e : g = true := by rw [HG.out]; simp [hl2, h1, h2]
                  subst e
                  go_wp2_with fail
                  go_meet
                  exact ⟨rfl, rfl⟩
                · have e : g = false := by rw [HG.out]; simp [h2]
                  subst e
                  go_wp2_with fail
                  go_meet
                  exact ⟨by simp <;> omega, rfl⟩
              · have e : g = false := by rw [HG.out]; simp [h1]
                subst e
                go_wp2_with fail
                go_meet
                exact ⟨rfl, rfl⟩
            · have e : g = false := by rw [HG.out]; simp [hl2]
              subst e
              go_wp2_with fail
              go_meet
              exact ⟨rfl, rfl⟩
          case rest =>
          as_aux_lemma =>
          obtain ⟨hv, hw⟩ := hcut
          subst hv
          subst hw
          go_upto_if 140 with fail
          go_cut [17] (fun s17 x => ∃ now2 : Int, s17 = .int .i64 now2 ∧ now ≤ now2 ∧ now2 ≤ now + 999 ∧ wr = x)
          case first =>
            as_aux_lemma =>
            cases g
            · go_wp2_with fail
              go_meet
              exact ⟨now, rfl, by omega, by omega, rfl⟩
            · have e := HG.out
              simp only [Bool.true_eq, Bool.and_eq_true, decide_eq_true_eq] at e
              obtain ⟨hl2, h1, h2⟩ := e
              obtain ⟨a2, o2, rfl, hlt0, qz, y0, y1⟩ := HZ2.out k hl2
              have q2 := (R.out.kb.cell (p := ⟨a2, o2 + k, none⟩) hlt0).trans qz
              clear qz hlt0
              generalize z2 k = zz at *
              go_wp2_with fail
              go_meet
              exact ⟨now + zz, rfl, by omega, by omega, rfl⟩
          case rest =>
          as_aux_lemma =>
          obtain ⟨now2, rfl, hn2, hn3, hw⟩ := hcut
          subst hw
          have S := Lib.hid (S.out.later hn2)
          clear HG
          have q1 := QZ.out wr R.out.kb
          by_cases hnr : 0 ≤ n ∧ n < 150
          · obtain ⟨hna, hnb⟩ := hnr
            obtain ⟨m, rfl⟩ := Int.eq_ofNat_of_zero_le hna
            have hT : ∃ T : Int, T = if nx < 0 then (m : Int) else nx := ⟨_, rfl⟩
            obtain ⟨T, hT⟩ := hT
            have HT := Lib.hid hT
            have hT0 : 0 ≤ T := by split at hT <;> omega
            have hT1 : T ≤ 150 := by split at hT <;> omega
            clear hT
            go_wp2_with fail
            refine (orderPush_ok wr b cur wait nx now2 bm c f m T HT ⟨by omega, by omega, by omega⟩ (by simp [Pl.long]; omega) hx0 (by omega) (S.out.all (by omega)) (by omega) (by omega) m 0 0 0 false _ [] ⟨by omega, by omega, by decide, by decide, by decide, by decide, by decide, by decide, by decide⟩ (pk0 _ _ _) R.out.ord).mono ?_
            rw [S.out.fresh m (by omega) T HT.out]
            rintro e w8 ⟨oa8, cc8, c8, rfl, O8, hc8, -, k8⟩
            have hr : ∃ r, r = (decide (T ≤ (m : Int)) && !p m) := ⟨_, rfl⟩
            obtain ⟨r, hr⟩ := hr
            have S8 := S.out.push m (by omega) T HT.out (by omega) oa8 cc8
            rw [← hr] at S8 ⊢
            simp only [List.length_nil] at O8
            have HR := Lib.hid hr
            have hbb := HB.out
            have R8 := Lib.hid (R.out.call O8 k8 hbb.1 hbb.2.1 hbb.2.2.2.1 hbb.2.2.2.2)
            generalize Pl.keepF f m T (keptV m false m 0 0 0 false (.slice oa8 0 cc8) now2) = f8 at *
            have S8 := Lib.hid S8
            clear hr O8 k8 R S hbb q1
            go_upto_if 169 with fail
            go_cut [18] (fun s18 x => s18 = .int .i64 T ∧ w8 = x)
            case first =>
              as_aux_lemma =>
              by_cases hx : nx < 0
              · have e := HT.out
                rw [if_pos hx] at e
                subst e
                go_wp2_with fail
                go_meet
                exact ⟨rfl, rfl⟩
              · have e := HT.out
                rw [if_neg hx] at e
                subst e
                go_wp2_with fail
                go_meet
                exact ⟨rfl, rfl⟩
            case rest =>
            as_aux_lemma =>
            obtain ⟨rfl, hw⟩ := hcut
            subst hw
            have qm := R8.out.marks.cell m (by omega)
            go_upto_region 27 with fail
            go_cut [181] (fun v x => v = .bool false ∧ w8 = x)
            case first =>
              as_aux_lemma =>
              have e := HR.out
              by_cases hle : T ≤ (m : Int)
              · cases hp : p m
                · rw [hp] at e qm
                  simp only [hle, decide_true, Bool.not_false, Bool.and_true] at e
                  subst e
                  go_wp2_with fail
                  go_meet
                  exact ⟨rfl, rfl⟩
                · rw [hp] at e qm
                  simp only [hle, decide_true, Bool.not_true, Bool.and_false] at e
                  subst e
                  go_wp2_with fail
                  go_meet
                  exact ⟨rfl, rfl⟩
              · simp only [hle, decide_false, Bool.false_and] at e
                subst e
                go_wp2_with fail
                go_meet
                exact ⟨rfl, rfl⟩
            case rest =>
            as_aux_lemma =>
            obtain ⟨hv, hw⟩ := hcut
            subst hv
            subst hw
            have fm := R8.out.marks.free m
            go_upto_if 182 with fail
            go_cut [] (fun x => Hid (RM w b P wait now2 T bm c8 f8 (if r = true then (fun j => if j = m then true else p j) else p) x))
            case first =>
              as_aux_lemma =>
              have hbb := HB.out
              cases r
              · go_wp2_with fail
                go_meet
                exact R8
              · have R9 := Lib.hid (R8.out.mark hbb.2.2.1 hbb.2.2.2.1 hbb.2.2.2.2 m)
                go_wp2_with fail
                go_meet
                exact R9
            case rest =>
            as_aux_lemma =>
            clear qm fm R8 HR
            have R8 : Hid (RM w b P wait now2 T bm c8 f8 (if r = true then (fun j => if j = m then true else p j) else p) _) := hcut
            clear hcut
            generalize (if r = true then (fun j => if j = m then true else p j) else p) = p8 at *
            by_cases h3 : (k : Int) % 3 = 1
            · go_wp2_with fail
              go_roundw
              case measure => simp [intOf]; omega
              case rel => exact ⟨k + 1, now2, T, now2, c8, f8, p8, by omega, by omega, by go_num, rfl, rfl, by omega, by omega, by omega, by omega, by omega, by omega, R8, S8⟩
            · obtain ⟨tn, rfl⟩ := Int.eq_ofNat_of_zero_le hT0
              go_wp2_with fail
              refine (orderPop_any b now2 wait tn now2 bm c8 f8 150 (S8.out.all (by omega)) (S8.out.keys (by omega)) (by omega) (by omega) (by omega) (by omega) ⟨by omega, by omega, Int.le_refl _⟩ _ R8.out.ord).mono ?_
              rintro e w9 ⟨L, f9, nx9, c9, v9, rfl, hp, -, -, row9, O9, hc9, k9⟩
              obtain ⟨S9, hnx9, hit⟩ := S8.out.pop (by omega) hp
              have hb9 := S9.high
              obtain ⟨oa9, cap9, rfl, hrow⟩ := row_cells row9 hit
              have hbb := HB.out
              have R9 := Lib.hid (R8.out.call O9 k9 hbb.1 hbb.2.1 hbb.2.2.2.1 hbb.2.2.2.2)
              have S9 := Lib.hid S9
              have HROW := Lib.hid hrow
              have HCM := Lib.hid (show w9.heap.size ≤ w9.heap.size from Nat.le_refl _)
              have K9 := Lib.hid (Below.refl w9.heap.size w9)
              have HNX := Lib.hid hnx9
              have hln : tn + L.length ≤ 150 := by omega
              clear hp hit row9 O9 k9 hbb hrow hnx9 R8 S8
              go_wp2_with fail
              go_loopw [18, 25] (fun s18 s25 z => ∃ kk : Nat, kk ≤ L.length ∧ s25 = .int .i64 kk ∧ s18 = .int .i64 ((tn + kk : Nat) : Int) ∧ Hid (Below w9.heap.size w9 z)) (fun _ s25 _ => L.length - (intOf s25).toNat)
              case atStart => exact ⟨0, by omega, rfl, rfl, K9⟩
              case round =>
                as_aux_lemma =>
                obtain ⟨kk, hkk, rfl, rfl, kz⟩ := hrel
                by_cases hl : kk < L.length
                · obtain ⟨g, s, ob, bc, rfl, hs, hcell⟩ := HROW.out kk hl
                  obtain ⟨d0, d1, d2, d3, d4, d5, d6, d7⟩ := hcell _ kz.out
                  have HS := Lib.hid hs
                  clear hs hcell
                  go_upto_region 39 with fail
                  refine abs_at (fun y => ItemAt y _ ((tn + kk : Nat) : Int) (!p8 (tn + kk)) s 0 0 0 false (.slice ob 0 bc) ∧ Hid (Below w9.heap.size w9 y)) ⟨obj_new _ _, Lib.hid (kz.out.alloc kz.out.size _)⟩ ?_
                  clear d0 d1 d2 d3 d4 d5 d6 d7 kz
                  rintro y ⟨hi, kz⟩
                  have qm := (R9.out.below kz.out).marks.cell (tn + kk) (by omega)
                  have e0 := obj_cell hi (k := 0) rfl
                  have e1 := obj_cell hi (k := 1) rfl
                  have e2 := obj_cell hi (k := 2) rfl
                  clear hi
                  cases hp : p8 (tn + kk)
                  · rw [hp] at qm e1
                    simp only [Bool.not_false] at e1
                    clear hp HS
                    go_quiet (fail)
                    go_wp2
                    go_roundw
                    case measure => simp [intOf]; omega
                    case rel => exact ⟨kk + 1, by omega, by go_num, by go_num, Lib.hid (Below.drewN kz.out _)⟩
                  · have hs := HS.out hp
                    subst hs
                    rw [hp] at qm e1
                    simp only [Bool.not_true] at e1
                    clear hp HS
                    go_quiet (fail)
                    go_wp2
                    go_roundw
                    case measure => simp [intOf]; omega
                    case rel => exact ⟨kk + 1, by omega, by go_num, by go_num, Lib.hid (Below.drewN kz.out _)⟩
                · obtain rfl : kk = L.length := by omega
                  have R9z := Lib.hid (R9.out.below kz.out)
                  rw [HNX.out] at R9z S9
                  clear R9 kz
                  go_wp2_with fail
                  go_roundw
                  case measure => simp [intOf]; omega
                  case rel => exact ⟨k + 1, now2, ((tn + L.length : Nat) : Int), now2, c9, f9, p8, by omega, by omega, by go_num, rfl, rfl, by omega, by omega, by omega, by omega, by omega, by omega, Lib.hid (by have := R9z.out; simpa using this), Lib.hid (by have := S9.out; simpa using this)⟩
          · by_cases hneg : n < 0
            · go_wp2_with fail
              go_roundw
              case measure => simp [intOf]; omega
              case rel => exact ⟨k + 1, now2, nx, cur, c, f, p, by omega, by omega, by go_num, rfl, rfl, by omega, by omega, by omega, by omega, by omega, by omega, R, S⟩
            · have hn150 : 150 ≤ n := by omega
              go_wp2_with fail
              go_roundw
              case measure => simp [intOf]; omega
              case rel => exact ⟨k + 1, now2, nx, cur, c, f, p, by omega, by omega, by go_num, rfl, rfl, by omega, by omega, by omega, by omega, by omega, by omega, R, S⟩
        · have hlt' := hlt
          clear hlt
          go_upto_region 16 with fail
          go_cut [120] (fun v x => v = .bool false ∧ wr = x)
          case first =>
            as_aux_lemma =>
            by_cases hl1 : k < n1
            · have hl2 : k = 80 := by omega
              subst hl2
              go_wp2_with fail
              go_meet
              exact ⟨rfl, rfl⟩
            · go_wp2_with fail
              go_meet
              exact ⟨rfl, rfl⟩
          case rest =>
          as_aux_lemma =>
          obtain ⟨hv, hw⟩ := hcut
          subst hv
          subst hw
          clear hlt'
          by_cases hx : nx < 0
          · have KB := Lib.hid R.out.kb
            clear R S
            go_wp2_with fail
            go_ret
            exact ⟨rfl, KB.out⟩
          · obtain ⟨tn, rfl⟩ := Int.eq_ofNat_of_zero_le (show 0 ≤ nx by omega)
            clear hx
            go_wp2_with fail
            refine (orderPop_any b cur wait tn (now + wait) bm c f 150 (S.out.all (by omega)) (S.out.keys (by omega)) (by omega) (by omega) (by omega) (by omega) ⟨by omega, by omega, by omega⟩ _ R.out.ord).mono ?_
            rintro e w9 ⟨L, f9, nx9, c9, v9, rfl, hp, -, hwt, row9, O9, hc9, k9⟩
            obtain ⟨S9, hnx9, hit⟩ := S.out.pop (by omega) hp
            have hb9 := S9.high
            obtain ⟨hz, hn⟩ := S9.done (by omega) hwt (Int.le_refl _)
            have hc0 : c9 = 0 := O9.map.count mlaw Try.underlying3 [] List.nodup_nil (fun i => by rw [hz]; simp)
            obtain ⟨oa9, cap9, rfl, hrow⟩ := row_cells row9 hit
            have hbb := HB.out
            have R9 := Lib.hid (R.out.call O9 k9 hbb.1 hbb.2.1 hbb.2.2.2.1 hbb.2.2.2.2)
            have HN := Lib.hid hn
            have HC0 := Lib.hid hc0
            have HROW := Lib.hid hrow
            have K9 := Lib.hid (Below.refl w9.heap.size w9)
            have HNX := Lib.hid hnx9
            have hln : tn + L.length ≤ 150 := by omega
            clear hp hit row9 O9 k9 hbb hrow hnx9 R S hwt hz hn hc0 S9
            go_wp2_with fail
            go_loopw [18, 29] (fun s18 s29 z => ∃ kk : Nat, kk ≤ L.length ∧ s29 = .int .i64 kk ∧ s18 = .int .i64 ((tn + kk : Nat) : Int) ∧ Hid (Below w9.heap.size w9 z)) (fun _ s29 _ => L.length - (intOf s29).toNat)
            case atStart => exact ⟨0, by omega, rfl, rfl, K9⟩
            case round =>
              as_aux_lemma =>
              obtain ⟨kk, hkk, rfl, rfl, kz⟩ := hrel
              by_cases hl : kk < L.length
              · obtain ⟨g, s, ob, bc, rfl, hs, hcell⟩ := HROW.out kk hl
                obtain ⟨d0, d1, -⟩ := hcell _ kz.out
                have qm := (R9.out.below kz.out).marks.cell (tn + kk) (by omega)
                clear hs hcell
                cases hp : p (tn + kk)
                · rw [hp] at qm d1
                  simp only [Bool.not_false] at d1
                  clear hp
                  go_wp2_with fail
                  go_quiet (fail)
                  go_wp2
                  go_roundw
                  case measure => simp [intOf]; omega
                  case rel => exact ⟨kk + 1, by omega, by go_num, by go_num, Lib.hid (Below.drewN kz.out _)⟩
                · rw [hp] at qm d1
                  simp only [Bool.not_true] at d1
                  clear hp
                  go_wp2_with fail
                  go_quiet (fail)
                  go_wp2
                  go_roundw
                  case measure => simp [intOf]; omega
                  case rel => exact ⟨kk + 1, by omega, by go_num, by go_num, Lib.hid (Below.drewN kz.out _)⟩
              · obtain rfl : kk = L.length := by omega
                go_wp2_with fail
                go_loopw [30] (fun s30 y => ∃ j : Nat, tn + L.length ≤ j ∧ j ≤ 150 ∧ s30 = .int .i64 j ∧ Hid (Below w9.heap.size w9 y)) (fun s30 _ => 150 - (intOf s30).toNat)
                case atStart => exact ⟨tn + L.length, Nat.le_refl _, hln, rfl, kz⟩
                case round =>
                  as_aux_lemma =>
                  clear kz
                  obtain ⟨j, hj1, hj2, rfl, kz⟩ := hrel
                  by_cases hj : j < 150
                  · have qm := (R9.out.below kz.out).marks.cell j (by omega)
                    rw [HN.out j (by have := HNX.out; omega)] at qm
                    go_wp2_with fail
                    go_roundw
                    case measure => simp [intOf]; omega
                    case rel => exact ⟨j + 1, by omega, by omega, by go_num, kz⟩
                  · have LEN : Calls Try.prog 7 #[.pointer (some ⟨b, 0, none⟩)] wr fun e w' => e = .returned (.int .i64 0) ∧ wr = w' :=
                      (orderLen_any b _ _ _ bm c9 f9 wr (R9.out.below kz.out).ord.at_ (R9.out.below kz.out).ord.map).mono (fun e w' ⟨h1, h2⟩ => ⟨by rw [h1, HC0.out]; rfl, h2⟩)
                    have LEN := Lib.hid LEN
                    go_wp2_with (go_at_call 7; (with_reducible refine LEN.out.mono ?_); rintro e w' ⟨rfl, rfl⟩)
                    go_ret
                    exact ⟨rfl, (R9.out.below kz.out).kb⟩
    · have h : ¬ wait ≤ 1000 := hwc
      go_wp2_with fail
      go_ret
      exact ⟨by simp, kb5.trans (k1.mono kb5.size)⟩
  · have G := Lib.hid hw0
    go_wp2_with fail
    refine (orderNew_bad wait hw0 _).mono ?_
    rintro e w6 ⟨rfl, rfl⟩
    clear hw0
    go_wp2_with fail
    all_goals first
      | (exfalso; have := G.out; omega)
      | (go_ret; exact ⟨ret_bool (by have := G.out; simp <;> omega), kb5⟩)
theorem ints_read {w : World} {v : Value} {l : List Int} (h : IsInts w v l) : ∃ (oa : Option Addr) (c : Nat), v = .slice oa l.length c ∧ l.length ≤ maxLen ∧ ∀ k, k < l.length → ∃ b f, oa = some ⟨b, f, none⟩ ∧ b < w.heap.size ∧ w.cell? ⟨b, f + k, none⟩ = some (.int .i64 (l.getD k 0)) ∧ -9223372036854775808 ≤ l.getD k 0 ∧ l.getD k 0 ≤ 9223372036854775807 := by
  obtain ⟨h1, h2⟩ := h
  have hl := h1.len
  rcases h1 with ⟨rfl, oa, cap, rfl, r1, _⟩ | ⟨b2, f2, c2, rfl, r1, r2, r3⟩
  · exact ⟨oa, cap, rfl, hl, fun k hk => by simp at hk⟩
  · refine ⟨_, c2, rfl, hl, fun k hk => ⟨b2, f2, rfl, Sl.lt (r3 k hk), by rw [r3 k hk]; simp [List.getD, hk], ?_⟩⟩
    have e : l.getD k 0 = l[k] := by simp [List.getD, hk]
    rw [e]
    exact h2 _ (List.getElem_mem hk)
theorem walk_OrderRow (w : World) (a0 : Int) (wf0 : (Lit.int .i64 a0).wf = true) (v1 : Value) (l1 : List Int) (o1 : IsInts w v1 l1) (v2 : Value) (l2 : List Int) (o2 : IsInts w v2 l2) :
    Calls Try.prog 3 #[.int .i64 a0, v1, v2] w fun e w' => e = .returned (.bool true) ∧ Below w.heap.size w w' := by
  obtain ⟨oa1, c1, rfl, m1, z1⟩ := ints_read o1
  obtain ⟨oa2, c2, rfl, m2, z2⟩ := ints_read o2
  exact walk_OrderRow_run w a0 oa1 _ c1 _ m1 z1 oa2 _ c2 _ m2 z2
end Go.Proofs.Ytijbfdagpcdcfaa
