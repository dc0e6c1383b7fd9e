import Derived.Test.YtcicfchpcbfdkaaGreatDoorPullDrop
import Derived.Test.YtcicfchpcbfdkaaGreatDoorGaps
import Derived.Test.YtcicfchpcbfdkaaGreatDoorRing
import Derived.Test.YtcicfchpcbfdkaaGreatDoorOrder
import Derived.Test.YtcicfchpcbfdkaaGreatDoorLayer
import Derived.Test.YtcicfchpcbfdkaaGreatDoorOut
import Derived.Test.YtcicfchpcbfdkaaGreatDoorMapR
import Derived.Test.YtcicfchpcbfdkaaGreatDoorSlRows
import Derived.Test.YtcicfchpcbfdkaaGreatDoorErrE
import Derived.Test.YtcicfchpcbfdkaaGreatDoorCloneI
/-! A node in memory; node.New, planned, get, fresh. -/
namespace Go.Proofs.YtcicfchpcbfdkaaGreatDoor
open Go.RowKit
set_option linter.unusedVariables false
set_option linter.unusedSimpArgs false
theorem abs_n {P : Program} {c : Code} {Q : Exit → Act → World → Prop} {a : Act} {W : World} (S : World → Prop) (h : S W) (k : ∀ wq, S wq → c.wp P Q a wq) : c.wp P Q a W := k W h
/-- a node in memory -/
def NodeAt (w : World) (b : Nat) (now id last : Int) (T : Nat → Value) (sm pl : Nat) (lt : Value) : Prop :=
  w.heap[b]? = some (.cells #[.int .i64 now, .int .i64 id, .int .i64 last, T 0, T 1, T 2, T 3, T 4, T 5, T 6, T 7, T 8, .map (some sm), .pointer (some ⟨pl, 0, none⟩), lt] 72 (0, 0))
/-- a track -/
def TrackAt (w : World) (b : Nat) (par ep : Int) (kv gp rg : Value) (top : Int) (h0 h1 h2 h3 h4 : Value) : Prop :=
  w.heap[b]? = some (.cells #[.int .i64 par, .int .i64 ep, kv, gp, rg, .int .i64 top, h0, h1, h2, h3, h4] 78 (0, 0))
/-- a subscriber -/
def SubAt (w : World) (b : Nat) (tr most : Int) (ov lv uv gv : Value) : Prop :=
  w.heap[b]? = some (.cells #[.int .i64 tr, .int .i64 most, ov, lv, uv, gv] 89 (0, 0))
namespace NodeAt
variable {w : World} {b : Nat} {now id last : Int} {T : Nat → Value} {sm pl : Nat} {lt : Value}
theorem track (h : NodeAt w b now id last T sm pl lt) (k : Nat) (hk : k < 9) : w.cell? ⟨b, 3 + k, none⟩ = some (T k) := by
  have : k = 0 ∨ k = 1 ∨ k = 2 ∨ k = 3 ∨ k = 4 ∨ k = 5 ∨ k = 6 ∨ k = 7 ∨ k = 8 := by omega
  rcases this with rfl | rfl | rfl | rfl | rfl | rfl | rfl | rfl | rfl <;> exact obj_cell h rfl
theorem setTrack (h : NodeAt w b now id last T sm pl lt) (k : Nat) (hk : k < 9) (v : Value) : NodeAt (w.setCell ⟨b, 3 + k, none⟩ v) b now id last (fun j => if j = k then v else T j) sm pl lt := by
  unfold NodeAt at *
  rw [obj_set h]
  have : k = 0 ∨ k = 1 ∨ k = 2 ∨ k = 3 ∨ k = 4 ∨ k = 5 ∨ k = 6 ∨ k = 7 ∨ k = 8 := by omega
  rcases this with rfl | rfl | rfl | rfl | rfl | rfl | rfl | rfl | rfl <;> rfl
theorem cells (h : NodeAt w b now id last T sm pl lt) : w.cell? ⟨b, 0, none⟩ = some (.int .i64 now) ∧ w.cell? ⟨b, 1, none⟩ = some (.int .i64 id) ∧ w.cell? ⟨b, 2, none⟩ = some (.int .i64 last) ∧ w.cell? ⟨b, 12, none⟩ = some (.map (some sm)) ∧ w.cell? ⟨b, 13, none⟩ = some (.pointer (some ⟨pl, 0, none⟩)) ∧ w.cell? ⟨b, 14, none⟩ = some lt :=
  ⟨obj_cell h rfl, obj_cell h rfl, obj_cell h rfl, obj_cell h rfl, obj_cell h rfl, obj_cell h rfl⟩
end NodeAt
def Pl.nodeOk (n : Int) : Bool := decide (0 ≤ n) && decide (n ≤ 15)
theorem nodeNode_any (n : Int) (w : World) : Calls Tryz.prog 25 #[.int .i64 n] w fun e w' => e = .returned (.bool (Pl.nodeOk n)) ∧ w = w' := by
  unfold Pl.nodeOk
  by_cases h1 : 0 ≤ n
  · by_cases h2 : n ≤ 15
    · have e1 : n < 16 := by omega
      go_enter Tryz.func25, Tryz.ntmps25
      go_wp2
      go_ret
      exact ⟨ret_bool (by simp [h1, h2]), rfl⟩
    · have e1 : ¬ n < 16 := by omega
      go_enter Tryz.func25, Tryz.ntmps25
      go_wp2
      go_ret
      exact ⟨ret_bool (by simp [h1, h2]), rfl⟩
  · have H := Lib.hid h1
    go_enter Tryz.func25, Tryz.ntmps25
    go_wp2
    go_ret
    exact ⟨ret_bool (by have := H.out; simp; omega), rfl⟩
theorem nodeNew_bad (id : Int) (h : ¬ (0 ≤ id ∧ id ≤ 15)) (w : World) :
    Calls Tryz.prog 7 #[.int .i64 id] w fun e w' => e = .returned (.tuple #[.pointer none, .iface 62 (.int .i64 1)]) ∧ w = w' := by
  have ND := Lib.hid (nodeNode_any id w)
  have hd : Pl.nodeOk id = false := by
    unfold Pl.nodeOk
    rw [Bool.and_eq_false_iff, decide_eq_false_iff_not, decide_eq_false_iff_not]; omega
  rw [hd] at ND
  clear h hd
  go_enter Tryz.func7, Tryz.ntmps7
  go_wp2_with (go_at_call 25; refine ND.out.mono ?_; rintro e w' ⟨rfl, rfl⟩)
  go_ret2
  exact ⟨rfl, rfl⟩
theorem nodeNew_ok (id : Int) (h : 0 ≤ id ∧ id ≤ 15) (w : World) :
    Calls Tryz.prog 7 #[.int .i64 id] w fun e w' => ∃ b sm pl mp, e = .returned (.tuple #[.pointer (some ⟨b, 0, none⟩), .nilIface]) ∧ NodeAt w' b 0 id 0 (fun _ => .pointer none) sm pl (.slice none 0 0) ∧ MapAt Tryz.prog 3 w' sm 0 (fun _ => none) ∧ Pul w.heap.size w' pl 0 10 mp (fun _ => 0) (fun _ => 0) (fun _ => 0) (fun _ _ => none) ∧ (w.heap.size ≤ sm ∧ sm < b ∧ b < w'.heap.size ∧ pl < sm ∧ ∀ j, j < 9 → mp j < sm) ∧ Below w.heap.size w w' := by
  have ND := Lib.hid (nodeNode_any id w)
  have hd : Pl.nodeOk id = true := by unfold Pl.nodeOk; simp [h.1, h.2]
  rw [hd] at ND
  have PN := Lib.hid (pullNew_ok 10 (by decide) (by decide) w)
  have hmm := @run_makeMap Tryz.prog
  clear h hd
  go_enter Tryz.func7, Tryz.ntmps7
  go_wp2_with (first
    | (go_at_call 25; refine ND.out.mono ?_; rintro e w' ⟨rfl, rfl⟩)
    | (go_at_call 26; (with_reducible refine PN.out.mono ?_); rintro e w2 ⟨pl, mp, rfl, hp, hk⟩; have P := Lib.hid hp; have K := Lib.hid hk; clear hp hk))
  go_ret2
  have hpl := lt_of_block P.out.at_
  have hmp := fun j hj => (P.out.map j hj).lt
  have k2 : Below w2.heap.size w2 ((w2.alloc (.map #[] 0)).alloc (.cells #[.int .i64 0, .int .i64 id, .int .i64 0, .pointer none, .pointer none, .pointer none, .pointer none, .pointer none, .pointer none, .pointer none, .pointer none, .pointer none, .map (some w2.heap.size), .pointer (some ⟨pl, 0, none⟩), .slice none 0 0] 72)) := ((Below.refl _ _).alloc (Nat.le_refl _) _).alloc (by simp) _
  exact ⟨w2.heap.size + 1, w2.heap.size, pl, mp, rfl, obj_new2 _ _ _, (MapAt.made _ _ _).block (Below.heap_alloc _ _ _ (by simp)), P.out.below k2, ⟨K.out.size, by omega, by simp, hpl, hmp⟩, K.out.trans (k2.mono K.out.size)⟩
/-- slices.Contains of ints -/
theorem indexI_any (v : Value) (l : List Int) (x : Int) (w : World) (h : Sl encI w v l) :
    Calls Tryz.prog 79 #[v, .int .i64 x] w fun e w' => (∃ i : Int, e = .returned (.int .i64 i) ∧ (0 ≤ i ↔ x ∈ l)) ∧ w = w' := by
  have hm := h.len
  unfold maxLen at hm
  obtain ⟨bv, fv, cv, oav, rfl, nv, gv⟩ := h.shape
  have GV := Lib.hid gv
  have NV := Lib.hid nv
  clear h gv nv
  go_enter Tryz.func79, Tryz.ntmps79
  go_upto_region 2 with fail
  go_loopw [5, 8] (fun _ s8 wr => ∃ i : Nat, i ≤ l.length ∧ s8 = .int .i64 i ∧ w = wr ∧ Hid (∀ j (hj : j < i) (hl : j < l.length), l[j] ≠ x)) (fun _ s8 _ => l.length - (RowKit.intOf s8).toNat)
  case atStart => exact ⟨0, by omega, rfl, rfl, Lib.hid (fun j hj => by omega)⟩
  case round =>
    obtain ⟨i, hi, rfl, rfl, HN⟩ := hrel
    by_cases hlt : i < l.length
    · have e1 : (i : Int) < (l.length : Int) := by omega
      have hne : l ≠ [] := fun e => by rw [e] at hlt; simp at hlt
      obtain rfl := NV.out hne
      have q := GV.out i hlt
      have q' : w.cell? ⟨bv, fv + i, none⟩ = some (.int .i64 l[i]) := q
      clear q
      by_cases hx : x = l[i]
      · have HM := Lib.hid (show x ∈ l from by rw [hx]; exact List.getElem_mem _)
        have d1 : (x == l[i]) = true := by simp [hx]
        clear hx
        generalize l[i] = y at *
        go_wp2_with fail
        go_ret
        exact ⟨⟨_, rfl, ⟨fun _ => HM.out, fun _ => by omega⟩⟩, rfl⟩
      · have H2 := Lib.hid (show ∀ j (hj : j < i + 1) (hl : j < l.length), l[j] ≠ x from fun j hj hl => by
          by_cases e : j = i
          · subst e; exact fun e => hx e.symm
          · exact HN.out j (by omega) hl)
        have d1 : (x == l[i]) = false := by simpa using hx
        clear hx
        generalize l[i] = y at *
        go_wp2_with fail
        go_roundw
        case measure => simp only [RowKit.intOf]; omega
        case rel => exact ⟨i + 1, by omega, by simp, by first | rfl | trivial, H2⟩
    · have e1 : ¬ (i : Int) < (l.length : Int) := by omega
      have HM := Lib.hid (show ¬ x ∈ l from fun hm => by
        obtain ⟨j, hj, e⟩ := List.mem_iff_getElem.1 hm
        exact HN.out j (by omega) hj e)
      clear hlt
      go_wp2_with fail
      go_ret
      exact ⟨⟨_, rfl, ⟨fun h => by omega, fun h => absurd h HM.out⟩⟩, rfl⟩
theorem containsI_any (v : Value) (l : List Int) (x : Int) (w : World) (h : Sl encI w v l) :
    Calls Tryz.prog 47 #[v, .int .i64 x] w fun e w' => e = .returned (.bool (decide (x ∈ l))) ∧ w = w' := by
  have IX := Lib.hid (indexI_any v l x w h)
  clear h
  go_enter Tryz.func47, Tryz.ntmps47
  go_upto_region 1 with fail
  by_cases hx : x ∈ l
  · have HX := Lib.hid hx
    go_wp2_with (go_at_call 79; (with_reducible refine IX.out.mono ?_); rintro e w' ⟨⟨i, rfl, hi⟩, rfl⟩; have h0 : 0 ≤ i := hi.2 hx; clear hi)
    go_ret
    exact ⟨ret_bool (by rw [decide_eq_true HX.out]), rfl⟩
  · have HX := Lib.hid hx
    go_wp2_with (go_at_call 79; (with_reducible refine IX.out.mono ?_); rintro e w' ⟨⟨i, rfl, hi⟩, rfl⟩; have h0 : ¬ 0 ≤ i := fun h => hx (hi.1 h); clear hi)
    go_ret
    exact ⟨ret_bool (by rw [decide_eq_false HX.out]; first | rfl | (simp; omega)), rfl⟩
end Go.Proofs.YtcicfchpcbfdkaaGreatDoor
