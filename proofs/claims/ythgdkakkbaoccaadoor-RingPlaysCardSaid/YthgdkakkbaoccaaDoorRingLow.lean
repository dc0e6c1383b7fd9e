import Derived.Shelf.SlIterI.Nil
import Derived.Ground.GgzProg
import Derived.Test.YthgdkakkbaoccaaDoorKeysMem
import Derived.Test.YthgdkakkbaoccaaDoorIntRow
import Derived.Test.YthgdkakkbaoccaaDoorRing
/-! ring.Low: the least key (the shelf's contracts, laid: printed by shelfgen.py). -/
namespace Go.Proofs.YthgdkakkbaoccaaDoor
open Go.RowKit Go.Maps Go.Shelf Go.Proofs
set_option linter.unusedVariables false
set_option linter.unusedSimpArgs false
def keysR_ren : Go.Shelf.Ren := ⟨fun | 7 => 62 | 10 => 84 | n => n, fun | 23 => 104 | 26 => 3 | 3 => 36 | 28 => 118 | 0 => 0 | 27 => 117 | 33 => 108 | 4 => 4 | n => n, fun  | n => n⟩
theorem keysR : Go.Proofs.SlLaysZI.n7 Tryd.prog keysR_ren := {
  mixed := by kernel_rfl
  f7 := ⟨Tryd.f62.name, by decide, Tryd.func62.trans (congrArg some (by kernel_rfl))⟩
  f10 := ⟨Tryd.f84.name, by decide, Tryd.func84.trans (congrArg some (by kernel_rfl))⟩
  t0 := Tryd.underlying0
  a0 := Tryd.isAgg0
  z0 := Tryd.sizeOf0
  v0 := Tryd.zeroValue0
  t4 := Tryd.underlying4
  a4 := Tryd.isAgg4
  z4 := Tryd.sizeOf4
  v4 := Tryd.zeroValue4
  t23 := Tryd.underlying104
  a23 := Tryd.isAgg104
  z23 := Tryd.sizeOf104
  v23 := Tryd.zeroValue104
  t26 := Tryd.underlying3
  a26 := Tryd.isAgg3
  z26 := Tryd.sizeOf3
  v26 := Tryd.zeroValue3
  t27 := Tryd.underlying117
  a27 := Tryd.isAgg117
  z27 := Tryd.sizeOf117
  v27 := Tryd.zeroValue117
  t28 := Tryd.underlying118
  a28 := Tryd.isAgg118
  z28 := Tryd.sizeOf118
  v28 := Tryd.zeroValue118
  t33 := Tryd.underlying108
  a33 := Tryd.isAgg108
  z33 := Tryd.sizeOf108
  v33 := Tryd.zeroValue108 }
def collectR_ren : Go.Shelf.Ren := ⟨fun | 8 => 61 | 11 => 83 | n => n, fun | 26 => 3 | 28 => 118 | 24 => 22 | 0 => 0 | 33 => 108 | 4 => 4 | n => n, fun  | n => n⟩
theorem collectR : Go.Proofs.SlLaysZI.n8 Tryd.prog collectR_ren := {
  mixed := by kernel_rfl
  f8 := ⟨Tryd.f61.name, by decide, Tryd.func61.trans (congrArg some (by kernel_rfl))⟩
  f11 := ⟨Tryd.f83.name, by decide, Tryd.func83.trans (congrArg some (by kernel_rfl))⟩
  t0 := Tryd.underlying0
  a0 := Tryd.isAgg0
  z0 := Tryd.sizeOf0
  v0 := Tryd.zeroValue0
  t24 := Tryd.underlying22
  a24 := Tryd.isAgg22
  z24 := Tryd.sizeOf22
  v24 := Tryd.zeroValue22
  t26 := Tryd.underlying3
  a26 := Tryd.isAgg3
  z26 := Tryd.sizeOf3
  v26 := Tryd.zeroValue3
  t28 := Tryd.underlying118
  a28 := Tryd.isAgg118
  z28 := Tryd.sizeOf118
  v28 := Tryd.zeroValue118
  i26 := by kernel_rfl }
theorem MapAt.len_run {P : Program} {k e t : TypeId} {w : World} {b c : Nat} {f : Int → Option Value} (h : MapAt P k w b c f) (ht : P.underlying t = some (.map k e)) (ty : TypeId) : (Builtin.len_ #[t] ty #[.map (some b)]).run P w = .ok (.int .i64 c) w := by
  obtain ⟨D, h1, h2, _⟩ := h
  rw [h1.len ht ty, h2]
set_option maxHeartbeats 1000000 in
/-- slices.Min at ints -/
theorem sliceMin_any (g n cap : Nat) (A : List Int) (hn : A.length = n) (h0 : 0 < n) (hm : n ≤ 1000000) (w : World) (hc : ∀ k x, A[k]? = some x → w.cell? ⟨g, k, none⟩ = some (.int .i64 x)) :
    Calls Tryd.prog 60 #[.slice (some ⟨g, 0, none⟩) n cap] w fun e w' => ∃ m : Int, e = .returned (.int .i64 m) ∧ m ∈ A ∧ (∀ x ∈ A, m ≤ x) ∧ w = w' := by
  have HC := Lib.hid hc
  have HN := Lib.hid hn
  obtain ⟨x0, hx0⟩ : ∃ x, A[0]? = some x := ⟨_, List.getElem?_eq_getElem (by omega)⟩
  have c0 := hc 0 _ hx0
  have HX0 := Lib.hid hx0
  clear hc hn hx0
  go_enter Tryd.func60, Tryd.ntmps60
  go_wp2_with fail
  go_loop [3, 4] (fun s3 s4 => ∃ (k : Nat) (m : Int), 1 ≤ k ∧ k ≤ n ∧ s4 = .int .i64 k ∧ s3 = .int .i64 m ∧ Hid (m ∈ A.take k ∧ ∀ x ∈ A.take k, m ≤ x)) (fun _ s4 => n - (RowKit.intOf s4).toNat)
  case atStart => exact ⟨1, x0, by omega, by omega, rfl, rfl, Lib.hid (by
    have e : A.take 1 = [x0] := by rw [List.take_add_one]; simp [HX0.out]
    rw [e]; simp)⟩
  case round =>
    obtain ⟨k, m, hk0, hk, rfl, rfl, hm'⟩ := hrel
    by_cases hlt : k < n
    · obtain ⟨x, hx⟩ : ∃ x, A[k]? = some x := ⟨_, List.getElem?_eq_getElem (by rw [HN.out]; exact hlt)⟩
      have hck := HC.out k _ hx
      have HX := Lib.hid hx
      clear hx
      have HT : Hid (A.take (k + 1) = A.take k ++ [x]) := Lib.hid (by rw [List.take_add_one, HX.out]; rfl)
      by_cases hlx : x < m
      · have h1 : Hid (x ∈ A.take (k + 1) ∧ ∀ y ∈ A.take (k + 1), x ≤ y) := Lib.hid (by
          rw [HT.out]
          refine ⟨by simp, fun y hy => ?_⟩
          simp only [List.mem_append, List.mem_singleton] at hy
          rcases hy with hy | rfl
          · have := hm'.out.2 y hy; omega
          · omega)
        go_wp2_with fail
        go_round
        case rel => exact ⟨k + 1, x, by omega, by omega, by go_num, rfl, h1⟩
        case measure => simp [RowKit.intOf]; omega
      · have h1 : Hid (m ∈ A.take (k + 1) ∧ ∀ y ∈ A.take (k + 1), m ≤ y) := Lib.hid (by
          rw [HT.out]
          refine ⟨by simp [hm'.out.1], fun y hy => ?_⟩
          simp only [List.mem_append, List.mem_singleton] at hy
          rcases hy with hy | rfl
          · exact hm'.out.2 y hy
          · omega)
        go_wp2_with fail
        go_round
        case rel => exact ⟨k + 1, m, by omega, by omega, by go_num, rfl, h1⟩
        case measure => simp [RowKit.intOf]; omega
    · have e : k = n := by omega
      have h1 : Hid (m ∈ A ∧ ∀ y ∈ A, m ≤ y) := Lib.hid (by
        have q := hm'.out
        rw [List.take_of_length_le (by have := HN.out; omega)] at q
        exact q)
      clear hm'
      go_wp2_with fail
      go_ret
      exact ⟨m, rfl, h1.out.1, h1.out.2, rfl⟩
set_option maxHeartbeats 1000000 in
theorem ringLow_none (b : Nat) (n top : Int) (bm : Nat) (f : Int → Option Value) (w : World) (h : Rng w b n top bm 0 f) :
    Calls Tryd.prog 13 #[.pointer (some ⟨b, 0, none⟩)] w fun e w' => e = .returned (.int .i64 (-1)) ∧ w = w' := by
  have k2 := obj_cell h.at_ (k := 2) rfl
  have hm := h.map
  have hlen : ∀ ty, (Builtin.len_ #[104] ty #[.map (some bm)]).run Tryd.prog w = .ok (.int .i64 0) w := fun ty => by have := hm.len_run Tryd.underlying104 ty; simpa using this
  clear h hm
  go_enter Tryd.func13, Tryd.ntmps13
  go_wp2_with fail
  go_ret
  exact ⟨rfl, rfl⟩
set_option maxHeartbeats 1000000 in
theorem ringLow_some (b : Nat) (n top : Int) (bm c : Nat) (f : Int → Option Value) (hc0 : 0 < c) (hc : c ≤ 100000) (w : World) (h : Rng w b n top bm c f) :
    Calls Tryd.prog 13 #[.pointer (some ⟨b, 0, none⟩)] w fun e w' => ∃ m : Int, e = .returned (.int .i64 m) ∧ (f m).isSome = true ∧ (∀ i, (f i).isSome = true → m ≤ i) ∧ Below w.heap.size w w' := by
  have k2 := obj_cell h.at_ (k := 2) rfl
  have hm := h.map
  have hcz : ¬ ((c : Int) = 0) := by omega
  have hlen : ∀ ty, (Builtin.len_ #[104] ty #[.map (some bm)]).run Tryd.prog w = .ok (.int .i64 c) w := fun ty => hm.len_run Tryd.underlying104 ty
  clear h
  obtain ⟨D0, hown, hsz, hat⟩ := hm
  have HAT := Lib.hid hat
  have HSZ := Lib.hid hsz
  have hmax : Maps.size D0 ≤ maxLen := by rw [hsz]; unfold maxLen; omega
  have hbytes : Maps.size D0 * 8 ≤ 140737488355328 := by rw [hsz]; omega
  clear hat hsz
  refine (callsIn_wide (n := 6)).1 ?_
  have hbl := hown.lt
  have hseq : SeqGives Fence.wide 3 Tryd.prog 84 #[.pointer (some ⟨w.heap.size, 0, none⟩)] encZ (fun ss => ss.Perm (intKeys D0)) (Maps.size D0) (w.alloc (.cells #[.map (some bm)] 104)) :=
    AnyZI.keys_gives (ρ := keysR_ren) { keysR with } Fence.wide _ trivial rfl (by omega) w.heap.size bm c D0 _ (by simp) (by simp) (by
      obtain ⟨es, clock, hb, Ft, hs, hD⟩ := hown
      exact ⟨es, clock, (Below.heap_alloc _ _ bm hbl).trans hb, Ft, hs, hD⟩)
  have cK : ∀ mb W, CallsIn Fence.wide 5 Tryd.prog 62 #[.map mb] W fun e w' => e = .returned (.func (.func 84) #[] #[.pointer (some ⟨W.heap.size, 0, none⟩)]) ∧ w' = W.alloc (.cells #[.map mb] 104) := fun mb W => AnyZI.keys_in keysR Fence.wide 5 trivial rfl mb W
  have cC := AnyZI.collect_in collectR Fence.wide 5 trivial trivial rfl (by omega) 84 #[.pointer (some ⟨w.heap.size, 0, none⟩)] trivial (enters_of Tryd.func84 (by kernel_rfl) rfl) _ _ hmax hbytes _ hseq
  change CallsIn _ _ Tryd.prog 61 _ _ _ at cC
  have hfK : Fence.wide.fn 62 := trivial
  have hfS : Fence.wide.fn 61 := trivial
  have hfM : Fence.wide.fn 60 := trivial
  have hcb : ((c : Int) == 0) = false := by simpa using hcz
  have hcd : decide ((c : Int) = 0) = false := by simpa using hcz
  have hcc0 : 0 < (c : Int) := by omega
  have HCZ := Lib.hid hcz
  clear hcz
  have MIN : ∀ (v : Value) (ss : List Int) (W : World), W.ownsRow (w.alloc (.cells #[.map (some bm)] 104)).heap.size 3 1 v ss.length (ss.map encZ) → ss.length = c → CallsIn Fence.wide 5 Tryd.prog 60 #[v] W fun e w' => ∃ m : Int, e = .returned (.int .i64 m) ∧ m ∈ ss ∧ (∀ x ∈ ss, m ≤ x) ∧ W = w' := fun v ss W hr hl => by
    obtain ⟨oa, cap, rfl, hread⟩ := intRow_read (A := ss) hr
    have hx0 : ss[0]? = some ss[0] := List.getElem?_eq_getElem (by omega)
    obtain ⟨g, rfl, _, _, _⟩ := hread 0 _ hx0
    exact callsIn_wide.2 (sliceMin_any g ss.length cap ss rfl (by omega) (by omega) W (fun k x hx => by
      obtain ⟨g', e', _, _, q⟩ := hread k x hx
      cases e'
      exact q))
  have MIN := Lib.hid MIN
  refine callsIn_of_wp Tryd.func13 rfl trivial ?_ rfl
  simp only [Tryd.ntmps13, List.size_toArray, List.length_cons, List.length_nil, Nat.reduceAdd, Nat.reduceSub, Array.replicate_succ, Array.replicate_zero, List.push_toArray, List.append_toArray, List.nil_append, List.cons_append]
  gi_wp2_with (first
    | (gi_at_call 62; refine (cK _ _).mono ?_; rintro e w' ⟨rfl, rfl⟩)
    | (gi_at_call 61; refine cC.mono ?_; rintro e w' ⟨v, ss, rfl, hS, hrow, hnil, hb⟩; have KM := Lib.hid (keys_mem rlaw Tryd.underlying3 hown HSZ.out HAT.out hS); have HROW := Lib.hid hrow; have HB := Lib.hid hb; clear hS hrow hnil hb)
    | (gi_at_call 60; refine (MIN.out _ _ _ HROW.out KM.out.2).mono ?_; rintro e w' ⟨m, rfl, hmm, hml, rfl⟩))
  go_ret
  exact ⟨m, rfl, (KM.out.1 m).1 hmm, fun i hi => hml i ((KM.out.1 i).2 hi), ((Below.refl _ w).alloc (Nat.le_refl _) _).trans (HB.out.mono (by simp))⟩
end Go.Proofs.YthgdkakkbaoccaaDoor
