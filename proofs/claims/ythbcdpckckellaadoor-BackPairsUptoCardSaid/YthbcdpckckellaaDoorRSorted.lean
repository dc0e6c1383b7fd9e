import Derived.Test.YthbcdpckckellaaDoorRecs
import Derived.Test.YthbcdpckckellaaDoorKeysMem
import Derived.Test.YthbcdpckckellaaDoorSlRows
import Derived.Deep.QuietTactic
import Derived.BigQuiet
import Derived.Deep.DeepCutAuto
/-! The reference's Sorted. -/
namespace Go.Proofs.YthbcdpckckellaaDoor
open Go.RowKit
set_option linter.unusedVariables false
set_option linter.unusedSimpArgs false
/-- slices of ints -/
def intK : RecK Int := ⟨22, 3, 1, 8, fun x => [.int .i64 x]⟩
theorem intK_ok : intK.Ok where
  und := Tryd.underlying22
  info := by
    obtain ⟨i0, hi, hz0, hz1, hz2⟩ := info_parts infoI64
    exact ⟨i0, _, hi, hz0, hz1, hz2, rfl⟩
  pos := by decide
  len := fun _ => rfl
  one := fun x u hu => by simp [intK] at hu; rw [hu]; rfl
  small := by decide
theorem intK_all (L : List Int) : intK.all L = L.map encI := by
  induction L with
  | nil => rfl
  | cons x r ih => simp only [RecK.all, List.flatMap_cons, List.map_cons] at *; rw [ih]; rfl
theorem intK_row {w : World} {M : Nat} {v : Value} {L : List Int} : intK.Own w M v L ↔ w.ownsRow M 3 1 v L.length (L.map encI) := by
  unfold RecK.Own; rw [intK_all]; exact Iff.rfl
/-- what a row of ints reads as -/
theorem intRow_sl {w : World} {M : Nat} {v : Value} {A : List Int} (h : w.ownsRow M 3 1 v A.length (A.map encI)) : Sl encI w v A := by
  rcases h.2 with ⟨rfl, h0⟩ | ⟨g, cap, cur, rfl, hb, hg, hc, hm, hs, ht⟩
  · have : A = [] := List.eq_nil_of_length_eq_zero h0
    subst this
    exact .inl ⟨rfl, none, 0, rfl, by simp, fun _ => rfl⟩
  · refine .inr ⟨g, 0, cap, rfl, hc, hm, fun i hi => ?_⟩
    have h1 := (h.cellAt i (by omega))
    rw [Nat.zero_add, h1, List.getElem?_map]
    simp [hi]
theorem take_next {α : Type} (l : List α) (i : Nat) (h : i < l.length) : l.take (i + 1) = l.take i ++ [l[i]] := by
  rw [List.take_add_one]; simp [h]
/-- y at the place j -/
def insAt (S : List Int) (j : Nat) (y : Int) : List Int := S.take j ++ y :: S.drop j
theorem insAt_len (S : List Int) (j : Nat) (y : Int) : (insAt S j y).length = S.length + 1 := by
  unfold insAt; simp; omega
theorem insAt_end (S : List Int) (y : Int) : insAt S S.length y = S ++ [y] := by simp [insAt]
theorem insAt_set (S : List Int) (j : Nat) (hj : j ≤ S.length) (y z : Int) : (insAt S j y).set j z = insAt S j z := by
  unfold insAt
  rw [List.set_append_right _ _ (by simp; omega)]
  rw [List.length_take, Nat.min_eq_left hj, Nat.sub_self]; rfl
theorem insAt_step (S : List Int) (j : Nat) (hj : j < S.length) (y : Int) : (insAt S (j + 1) y).set (j + 1) S[j] = insAt S j S[j] := by
  rw [insAt_set S (j + 1) (by omega)]
  show S.take (j + 1) ++ S[j] :: S.drop (j + 1) = S.take j ++ S[j] :: S.drop j
  rw [take_next S j hj, List.append_assoc]
  congr 1
  show S[j] :: S[j] :: S.drop (j + 1) = S[j] :: S.drop j
  rw [List.drop_eq_getElem_cons hj]
theorem insAt_get (S : List Int) (j : Nat) (hj : j < S.length) (y : Int) : (insAt S (j + 1) y)[j]? = some S[j] := by
  unfold insAt
  rw [List.getElem?_append_left (by simp; omega), List.getElem?_take, if_pos (by omega)]
  simp [hj]
theorem mem_insAt (S : List Int) (j : Nat) (y i : Int) : i ∈ insAt S j y ↔ i = y ∨ i ∈ S := by
  unfold insAt
  rw [List.mem_append, List.mem_cons]
  constructor
  · rintro (h | h | h)
    · exact .inr (List.mem_of_mem_take h)
    · exact .inl h
    · exact .inr (List.mem_of_mem_drop h)
  · rintro (h | h)
    · exact .inr (.inl h)
    · rw [← List.take_append_drop j S] at h
      rcases List.mem_append.1 h with h | h
      · exact .inl h
      · exact .inr (.inr h)
theorem insAt_rises {S : List Int} (h : Rises S) (j : Nat) (hj : j ≤ S.length) (y : Int) (h1 : ∀ (i : Nat) (hi : i < S.length), j ≤ i → y < S[i]) (h2 : ∀ (h0 : j - 1 < S.length), 0 < j → S[j - 1] < y) : Rises (insAt S j y) := by
  unfold insAt
  rw [← List.take_append_drop j S] at h
  obtain ⟨a, b, c⟩ := List.pairwise_append.1 h
  have lo : ∀ x ∈ S.take j, x < y := fun x hx => by
    obtain ⟨i, hi, rfl⟩ := List.mem_iff_getElem.1 hx
    have hi' : i < j := by simp at hi; omega
    have q := h2 (by omega) (by omega)
    rw [List.take_append_drop] at h
    rw [List.getElem_take]
    by_cases e : i = j - 1
    · subst e; exact q
    · have := List.pairwise_iff_getElem.1 h i (j - 1) (by omega) (by omega) (by omega)
      omega
  have up : ∀ x ∈ S.drop j, y < x := fun x hx => by
    obtain ⟨i, hi, rfl⟩ := List.mem_iff_getElem.1 hx
    rw [List.getElem_drop]
    exact h1 _ _ (by omega)
  refine List.pairwise_append.2 ⟨a, List.pairwise_cons.2 ⟨up, b⟩, fun x hx z hz => ?_⟩
  rcases List.mem_cons.1 hz with rfl | hz
  · exact lo x hx
  · exact c x hx z hz
/-- two that rise, of the same members -/
theorem rises_eq : ∀ {A B : List Int}, Rises A → Rises B → (∀ i, i ∈ A ↔ i ∈ B) → A = B
  | [], [], _, _, _ => rfl
  | [], y :: B, _, _, h => absurd ((h y).2 (.head _)) (by simp)
  | x :: A, [], _, _, h => absurd ((h x).1 (.head _)) (by simp)
  | x :: A, y :: B, hA, hB, h => by
    obtain ⟨a1, a2⟩ := List.pairwise_cons.1 hA
    obtain ⟨b1, b2⟩ := List.pairwise_cons.1 hB
    have hx := (h x).1 (.head _)
    have hy := (h y).2 (.head _)
    have e : x = y := by
      rcases List.mem_cons.1 hx with e | hx
      · exact e
      · rcases List.mem_cons.1 hy with e | hy
        · exact e.symm
        · have := b1 x hx; have := a1 y hy; omega
    subst e
    rw [rises_eq a2 b2 (fun i => ?_)]
    constructor
    · intro hi
      rcases List.mem_cons.1 ((h i).1 (.tail _ hi)) with rfl | h'
      · have := a1 i hi; omega
      · exact h'
    · intro hi
      rcases List.mem_cons.1 ((h i).2 (.tail _ hi)) with rfl | h'
      · have := b1 i hi; omega
      · exact h'
theorem insAt_map (S : List Int) (j : Nat) (y z : Int) : ((insAt S j y).map encI).set j (.int .i64 z) = ((insAt S j y).set j z).map encI := by rw [List.map_set]
set_option maxRecDepth 100000 in
set_option maxHeartbeats 8000000 in
theorem rSorted_any (v : Value) (l : List Int) (hl : l.length ≤ 100000) (w : World) (h : Sl encI w v l) :
    Calls Tryd.prog 21 #[v] w fun e w' => ∃ (v' : Value) (S : List Int), e = .returned v' ∧ Rises S ∧ (∀ i, i ∈ S ↔ i ∈ l) ∧ w'.ownsRow w.heap.size 3 1 v' S.length (S.map encI) ∧ Below w.heap.size w w' := by
  obtain ⟨bv, fv, cv, oav, rfl, nv, gv⟩ := h.shape
  have GV := Lib.hid gv
  have NV := Lib.hid nv
  clear h gv nv
  go_enter Tryd.func21, Tryd.ntmps21
  go_wp2_with fail
  go_loopw [3, 4] (fun s3 s4 wr => ∃ (i : Nat) (S : List Int), i ≤ l.length ∧ S.length ≤ i ∧ s4 = .int .i64 i ∧ Hid (Rises S) ∧ Hid (∀ x, x ∈ S ↔ x ∈ l.take i) ∧ Hid (wr.ownsRow w.heap.size 3 1 s3 S.length (S.map encI)) ∧ Hid (Below w.heap.size w wr)) (fun _ s4 _ => l.length - (RowKit.intOf s4).toNat)
  case atStart => exact ⟨0, [], by omega, by simp, rfl, Lib.hid List.Pairwise.nil, Lib.hid (fun x => by simp), Lib.hid (World.ownsRow_nil _ _ _ _), Lib.hid (Below.refl _ _)⟩
  case round =>
    obtain ⟨i, S, hi, hS, rfl, RS, HM, ro, kb⟩ := hrel
    by_cases hlt : i < l.length
    · have hne : l ≠ [] := fun e => by rw [e] at hlt; simp at hlt
      obtain rfl := NV.out hne
      have qx0 := GV.out i hlt
      have hbv : bv < w.heap.size := Sl.lt qx0
      have QX := Lib.hid (fun y (k : Below w.heap.size w y) => (k.cell (p := ⟨bv, fv + i, none⟩) hbv).trans qx0)
      have HTK := Lib.hid (show ∀ x, x ∈ l.take (i + 1) ↔ x = l[i] ∨ x ∈ l.take i from fun x => by
        rw [take_next l i hlt, List.mem_append, List.mem_singleton]; exact or_comm)
      clear qx0
      generalize l[i] = x at *
      obtain ⟨oS, capS, rfl, -⟩ := intRow_read ro.out
      go_upto_region 6 with fail
      go_loopw [5] (fun s5 wr => ∃ k : Nat, k ≤ S.length ∧ s5 = .int .i64 k ∧ Hid (∀ (j : Nat) (hj : j < S.length), k ≤ j → x < S[j]) ∧ Hid (wr.ownsRow w.heap.size 3 1 (.slice oS S.length capS) S.length (S.map encI)) ∧ Hid (Below w.heap.size w wr)) (fun s5 _ => (RowKit.intOf s5).toNat)
      case atStart => exact ⟨S.length, by omega, rfl, Lib.hid (fun j hj h => by omega), ro, kb⟩
      case round =>
        clear ro kb
        obtain ⟨k, hk, rfl, HG, ro, kb⟩ := hrel
        have qx : wr.cell? ⟨bv, fv + i, none⟩ = some (.int .i64 x) := QX.out wr kb.out
        have RO := Lib.hid (fun q => (ro.out : (wr.drewN q).ownsRow w.heap.size 3 1 (.slice oS S.length capS) S.length (S.map encI)))
        have KB := Lib.hid (fun q => (Below.drewN kb.out q))
        go_upto_region 6 with fail
        by_cases hk0 : 0 < k
        · obtain ⟨oS', capS', e', hcell⟩ := intRow_read ro.out
          cases e'
          have hk1 : k - 1 < S.length := by omega
          obtain ⟨gS, rfl, hgB, hgl, c0⟩ := hcell (k - 1) S[k - 1] (by simp [hk1])
          have W1 : IntKind.i64.wrap ((k : Int) - 1) = ((k - 1 : Nat) : Int) := by rw [IntKind.wrap_i64]; omega
          have HPR := Lib.hid (fun (j : Nat) (hj : j < S.length) (h : j < k) (h2 : S[k - 1] < x) => (show S[j] < x from by
            by_cases e : j = k - 1
            · subst e; exact h2
            · have := List.pairwise_iff_getElem.1 RS.out j (k - 1) (by omega) (by omega) (by omega)
              omega))
          have HK1 := Lib.hid (show ∀ (h : x < S[k - 1]) (j : Nat) (hj : j < S.length), k - 1 ≤ j → x < S[j] from fun h j hj hj1 => by
            by_cases e : j = k - 1
            · subst e; exact h
            · exact HG.out j hj (by omega))
          have HEQ := Lib.hid (show ∀ (h : S[k - 1] = x), x ∈ S from fun h => by rw [← h]; exact List.getElem_mem _)
          have HNE := Lib.hid (show ∀ (h : S[k - 1] < x), Rises (insAt S k x) from fun h => insAt_rises RS.out k hk x (fun j hj h1 => HG.out j hj h1) (fun _ _ => h))
          clear hcell
          generalize S[k - 1] = z at *
          have hk0' : (0 : Int) < (k : Int) := by omega
          by_cases hzx : x < z
          · go_quiet (fail)
            go_wp2_with fail
            go_roundw
            case measure => simp [RowKit.intOf]; omega
            case rel => exact ⟨k - 1, by omega, by first | rfl | go_num, Lib.hid (HK1.out hzx), Lib.hid (RO.out 0), Lib.hid (KB.out _)⟩
          · have d1 : decide (x < z) = false := by simpa using hzx
            go_quiet (fail)
            go_upto_region 8 with fail
            refine abs_to (fun y => y.cell? ⟨bv, fv + i, none⟩ = some (.int .i64 x) ∧ y.cell? ⟨gS, k - 1, none⟩ = some (.int .i64 z) ∧ Hid (y.ownsRow w.heap.size 3 1 (.slice (some ⟨gS, 0, none⟩) S.length capS) S.length (S.map encI)) ∧ Hid (Below w.heap.size w y)) ⟨by exact qx, by exact c0, Lib.hid (RO.out 0), Lib.hid (KB.out _)⟩ ?_
            clear RO KB ro kb qx c0 d1
            rintro y ⟨qx, c0, ro, kb⟩
            cases d2 : (z == x)
            · have hlt2 : z < x := by simp at d2; omega
              have IR := Lib.hid (HNE.out hlt2)
              have qx2 := Lib.hid qx
              go_quiet (fail)
              go_upto_region 9 with fail
              refine abs_to (fun y => Hid (y.ownsRow w.heap.size 3 1 (.slice (some ⟨gS, 0, none⟩) S.length capS) S.length (S.map encI)) ∧ Hid (Below w.heap.size w y)) ⟨Lib.hid (by exact ro.out), Lib.hid (Below.drewN kb.out _)⟩ ?_
              clear ro kb qx c0
              rintro y2 ⟨ro2, kb2⟩
              have roA : Hid ((y2.alloc (.cells #[.int .i64 0] 3)).ownsRow w.heap.size 3 1 (.slice (some ⟨gS, 0, none⟩) S.length capS) S.length (S.map encI)) := Lib.hid (ro2.out.alloc _)
              have kA : Hid (Below w.heap.size w (y2.alloc (.cells #[.int .i64 0] 3))) := Lib.hid (kb2.out.alloc kb2.out.size _)
              have RUN := Lib.hid (run_moreInt2 _ w.heap.size (.slice (some ⟨gS, 0, none⟩) S.length capS) 0 S.length (S.map encI) roA.out y2.heap.size (obj_new _ _) (by omega) (by have := kb2.out.size; simp; omega))
              have hgb : Hid (∀ g, (Value.slice (some ⟨gS, 0, none⟩) S.length capS).ownBlock = some g → w.heap.size ≤ g) := Lib.hid (fun g e => (ro2.out.lt g e).1)
              clear ro2 kb2 qx2
              go_upto_region 10 with (at_builtin; obtain ⟨vN, wN, hr, ho, hgr, hbk⟩ := RUN.out; obtain ⟨gN, capN, rfl⟩ := Joins.ownsRow_form ho (by omega); refine Lib.wpList_append_run _ rfl (.tmp 45) (.tmp 46) 22 22 rfl _ _ rfl rfl _ _ hr ?_)
              have RO : Hid (wN.ownsRow w.heap.size 3 1 (.slice (some ⟨gN, 0, none⟩) (S.length + 1) capN) (S.length + 1) ((insAt S S.length 0).map encI)) := Lib.hid (by rw [insAt_end, List.map_append]; exact ho)
              have KN : Hid (Below w.heap.size w wN) := Lib.hid ⟨hgr.os.trans kA.out.os, hgr.tape.trans kA.out.tape, hgr.output.trans kA.out.output, Nat.le_trans kA.out.size hgr.size, fun j hj => (hgr.block j (Nat.lt_of_lt_of_le hj kA.out.size) (fun e => by have := hgb.out j e.symm; omega)).trans (kA.out.block j hj)⟩
              clear hr ho hgr hbk RUN roA kA hgb
              go_upto_region 11 with fail
              go_loopw [6] (fun s6 wr => ∃ (j : Nat) (z' : Int), k ≤ j ∧ j ≤ S.length ∧ s6 = .int .i64 j ∧ Hid (wr.ownsRow w.heap.size 3 1 (.slice (some ⟨gN, 0, none⟩) (S.length + 1) capN) (S.length + 1) ((insAt S j z').map encI)) ∧ Hid (Below w.heap.size w wr)) (fun s6 _ => (RowKit.intOf s6).toNat)
              case atStart => exact ⟨S.length, 0, by omega, by omega, by first | rfl | go_num, RO, KN⟩
              case round =>
                clear RO KN
                obtain ⟨j, z', hj1, hj2, rfl, ro3, kb3⟩ := hrel
                have fz := ro3.out.frozenAt
                by_cases hjk : k < j
                · obtain ⟨j, rfl⟩ : ∃ j', j = j' + 1 := ⟨j - 1, by omega⟩
                  have hjS : j < S.length := by omega
                  have c1 : wr.cell? ⟨gN, j, none⟩ = some (.int .i64 S[j]) := by
                    rw [ro3.out.cellAt j (by omega), List.getElem?_map, insAt_get S j hjS]; rfl
                  have c2 : wr.cell? ⟨gN, j + 1, none⟩ = ((insAt S (j + 1) z').map encI)[j + 1]? := ro3.out.cellAt (j + 1) (by omega)
                  have hc2 : ((insAt S (j + 1) z').map encI)[j + 1]? = some (.int .i64 z') := by
                    rw [List.getElem?_map]; unfold insAt
                    rw [List.getElem?_append_right (by simp; omega), List.length_take, Nat.min_eq_left (by omega)]; simp [encI]
                  rw [hc2] at c2
                  clear hc2
                  have f1 := fz (j + 1)
                  have ST := Lib.hid (ro3.out.stored (j + 1) (.int .i64 S[j]))
                  have hst : ((insAt S (j + 1) z').map encI).set (j + 1) (.int .i64 S[j]) = (insAt S j S[j]).map encI := by rw [insAt_map, insAt_step S j hjS]
                  rw [hst] at ST
                  clear hst fz
                  have hgN : w.heap.size ≤ gN := (ro3.out.lt gN rfl).1
                  have W2 : IntKind.i64.wrap (((j + 1 : Nat) : Int) - 1) = (j : Int) := by rw [IntKind.wrap_i64]; omega
                  have K3 : Hid (Below w.heap.size w (wr.setCell ⟨gN, j + 1, none⟩ (.int .i64 S[j]))) := Lib.hid (Below.setCell kb3.out hgN _)
                  clear ro3 kb3
                  generalize S[j] = sj at *
                  go_wp2_with fail
                  go_roundw
                  case measure => simp [RowKit.intOf] <;> omega
                  case rel => exact ⟨j, _, by omega, by omega, by first | rfl | go_num, Lib.hid ST.out.1, K3⟩
                · obtain rfl : j = k := by omega
                  have qx : wr.cell? ⟨bv, fv + i, none⟩ = some (.int .i64 x) := QX.out wr kb3.out
                  have c2 : wr.cell? ⟨gN, j, none⟩ = some (.int .i64 z') := by
                    rw [ro3.out.cellAt j (by omega), List.getElem?_map]; unfold insAt
                    rw [List.getElem?_append_right (by simp <;> omega), List.length_take, Nat.min_eq_left (by omega)]; simp [encI]
                  have f1 := fz j
                  have ST := Lib.hid (ro3.out.stored j (.int .i64 x))
                  have hst : ((insAt S j z').map encI).set j (.int .i64 x) = (insAt S j x).map encI := by rw [insAt_map, insAt_set S j hj2]
                  rw [hst] at ST
                  clear hst fz
                  have hgN : w.heap.size ≤ gN := (ro3.out.lt gN rfl).1
                  have K3 : Hid (Below w.heap.size w (wr.setCell ⟨gN, j, none⟩ (.int .i64 x))) := Lib.hid (Below.setCell kb3.out hgN _)
                  have HM2 := Lib.hid (show ∀ x', x' ∈ insAt S j x ↔ x' ∈ l.take (i + 1) from fun x' => by
                    rw [HTK.out x', mem_insAt, HM.out x'])
                  have HL := Lib.hid (insAt_len S j x)
                  clear ro3 kb3
                  go_wp2_with fail
                  go_roundw
                  case measure => simp [RowKit.intOf]; omega
                  case rel => exact ⟨i + 1, insAt S j x, by omega, by rw [HL.out]; omega, rfl, IR, HM2, Lib.hid (by rw [HL.out]; exact ST.out.1), K3⟩
            · have hin := HEQ.out (by simpa using d2)
              have HM2 := Lib.hid (show ∀ x', x' ∈ S ↔ x' ∈ l.take (i + 1) from fun x' => by
                rw [HTK.out x', HM.out x']
                constructor
                · exact .inr
                · rintro (rfl | h)
                  · exact (HM.out _).1 hin
                  · exact h)
              go_quiet (fail)
              go_wp2_with fail
              go_roundw
              case measure => simp [RowKit.intOf]; omega
              case rel => exact ⟨i + 1, S, by omega, by omega, rfl, RS, HM2, Lib.hid (by exact ro.out), Lib.hid (Below.drewN kb.out _)⟩
        · obtain rfl : k = 0 := by omega
          have IR := Lib.hid (show Rises (insAt S 0 x) from insAt_rises RS.out 0 (by omega) x (fun j hj h1 => HG.out j hj h1) (fun _ h => by omega))
          go_quiet (fail)
          go_upto_region 8 with fail
          refine abs_to (fun y => Hid (y.ownsRow w.heap.size 3 1 (.slice oS S.length capS) S.length (S.map encI)) ∧ Hid (Below w.heap.size w y)) ⟨Lib.hid (RO.out 0), Lib.hid (KB.out _)⟩ ?_
          clear RO KB ro kb qx
          rintro y ⟨ro, kb⟩
          go_quiet (fail)
          go_upto_region 9 with fail
          refine abs_to (fun y => Hid (y.ownsRow w.heap.size 3 1 (.slice oS S.length capS) S.length (S.map encI)) ∧ Hid (Below w.heap.size w y)) ⟨Lib.hid (by exact ro.out), Lib.hid (Below.drewN kb.out _)⟩ ?_
          clear ro kb
          rintro y2 ⟨ro2, kb2⟩
          have qx2 : True := trivial
          have roA : Hid ((y2.alloc (.cells #[.int .i64 0] 3)).ownsRow w.heap.size 3 1 (.slice oS S.length capS) S.length (S.map encI)) := Lib.hid (ro2.out.alloc _)
          have kA : Hid (Below w.heap.size w (y2.alloc (.cells #[.int .i64 0] 3))) := Lib.hid (kb2.out.alloc kb2.out.size _)
          have RUN := Lib.hid (run_moreInt2 _ w.heap.size (.slice oS S.length capS) 0 S.length (S.map encI) roA.out y2.heap.size (obj_new _ _) (by omega) (by have := kb2.out.size; simp; omega))
          have hgb : Hid (∀ g, (Value.slice oS S.length capS).ownBlock = some g → w.heap.size ≤ g) := Lib.hid (fun g e => (ro2.out.lt g e).1)
          clear ro2 kb2 qx2
          go_upto_region 10 with (at_builtin; obtain ⟨vN, wN, hr, ho, hgr, hbk⟩ := RUN.out; obtain ⟨gN, capN, rfl⟩ := Joins.ownsRow_form ho (by omega); refine Lib.wpList_append_run _ rfl (.tmp 45) (.tmp 46) 22 22 rfl _ _ rfl rfl _ _ hr ?_)
          have RO : Hid (wN.ownsRow w.heap.size 3 1 (.slice (some ⟨gN, 0, none⟩) (S.length + 1) capN) (S.length + 1) ((insAt S S.length 0).map encI)) := Lib.hid (by rw [insAt_end, List.map_append]; exact ho)
          have KN : Hid (Below w.heap.size w wN) := Lib.hid ⟨hgr.os.trans kA.out.os, hgr.tape.trans kA.out.tape, hgr.output.trans kA.out.output, Nat.le_trans kA.out.size hgr.size, fun j hj => (hgr.block j (Nat.lt_of_lt_of_le hj kA.out.size) (fun e => by have := hgb.out j e.symm; omega)).trans (kA.out.block j hj)⟩
          clear hr ho hgr hbk RUN roA kA hgb
          go_upto_region 11 with fail
          go_loopw [6] (fun s6 wr => ∃ (j : Nat) (z' : Int), 0 ≤ j ∧ j ≤ S.length ∧ s6 = .int .i64 j ∧ Hid (wr.ownsRow w.heap.size 3 1 (.slice (some ⟨gN, 0, none⟩) (S.length + 1) capN) (S.length + 1) ((insAt S j z').map encI)) ∧ Hid (Below w.heap.size w wr)) (fun s6 _ => (RowKit.intOf s6).toNat)
          case atStart => exact ⟨S.length, 0, by omega, by omega, by first | rfl | go_num, RO, KN⟩
          case round =>
            clear RO KN
            obtain ⟨j, z', hj1, hj2, rfl, ro3, kb3⟩ := hrel
            have fz := ro3.out.frozenAt
            by_cases hjk : 0 < j
            · obtain ⟨j, rfl⟩ : ∃ j', j = j' + 1 := ⟨j - 1, by omega⟩
              have hjS : j < S.length := by omega
              have c1 : wr.cell? ⟨gN, j, none⟩ = some (.int .i64 S[j]) := by
                rw [ro3.out.cellAt j (by omega), List.getElem?_map, insAt_get S j hjS]; rfl
              have c2 : wr.cell? ⟨gN, j + 1, none⟩ = ((insAt S (j + 1) z').map encI)[j + 1]? := ro3.out.cellAt (j + 1) (by omega)
              have hc2 : ((insAt S (j + 1) z').map encI)[j + 1]? = some (.int .i64 z') := by
                rw [List.getElem?_map]; unfold insAt
                rw [List.getElem?_append_right (by simp; omega), List.length_take, Nat.min_eq_left (by omega)]; simp [encI]
              rw [hc2] at c2
              clear hc2
              have f1 := fz (j + 1)
              have ST := Lib.hid (ro3.out.stored (j + 1) (.int .i64 S[j]))
              have hst : ((insAt S (j + 1) z').map encI).set (j + 1) (.int .i64 S[j]) = (insAt S j S[j]).map encI := by rw [insAt_map, insAt_step S j hjS]
              rw [hst] at ST
              clear hst fz
              have hgN : w.heap.size ≤ gN := (ro3.out.lt gN rfl).1
              have W2 : IntKind.i64.wrap (((j + 1 : Nat) : Int) - 1) = (j : Int) := by rw [IntKind.wrap_i64]; omega
              have K3 : Hid (Below w.heap.size w (wr.setCell ⟨gN, j + 1, none⟩ (.int .i64 S[j]))) := Lib.hid (Below.setCell kb3.out hgN _)
              clear ro3 kb3
              generalize S[j] = sj at *
              go_wp2_with fail
              go_roundw
              case measure => simp [RowKit.intOf] <;> omega
              case rel => exact ⟨j, _, by omega, by omega, by first | rfl | go_num, Lib.hid ST.out.1, K3⟩
            · obtain rfl : j = 0 := by omega
              have qx : wr.cell? ⟨bv, fv + i, none⟩ = some (.int .i64 x) := QX.out wr kb3.out
              have c2 : wr.cell? ⟨gN, 0, none⟩ = some (.int .i64 z') := by
                rw [ro3.out.cellAt 0 (by omega), List.getElem?_map]; unfold insAt
                rw [List.getElem?_append_right (by simp <;> omega), List.length_take, Nat.min_eq_left (by omega)]; simp [encI]
              have f1 := fz 0
              have ST := Lib.hid (ro3.out.stored 0 (.int .i64 x))
              have hst : ((insAt S 0 z').map encI).set 0 (.int .i64 x) = (insAt S 0 x).map encI := by rw [insAt_map, insAt_set S 0 hj2]
              rw [hst] at ST
              clear hst fz
              have hgN : w.heap.size ≤ gN := (ro3.out.lt gN rfl).1
              have K3 : Hid (Below w.heap.size w (wr.setCell ⟨gN, 0, none⟩ (.int .i64 x))) := Lib.hid (Below.setCell kb3.out hgN _)
              have HM2 := Lib.hid (show ∀ x', x' ∈ insAt S 0 x ↔ x' ∈ l.take (i + 1) from fun x' => by
                rw [HTK.out x', mem_insAt, HM.out x'])
              have HL := Lib.hid (insAt_len S 0 x)
              clear ro3 kb3
              go_wp2_with fail
              go_roundw
              case measure => simp [RowKit.intOf]; omega
              case rel => exact ⟨i + 1, insAt S 0 x, by omega, by rw [HL.out]; omega, rfl, IR, HM2, Lib.hid (by rw [HL.out]; exact ST.out.1), K3⟩
    · obtain rfl : i = l.length := by omega
      rw [List.take_length] at HM
      go_wp2_with fail
      go_ret
      exact ⟨_, S, rfl, RS.out, HM.out, ro.out, kb.out⟩
end Go.Proofs.YthbcdpckckellaaDoor
