import Derived.Test.YthbcdpckckellaaDoorChunk
/-! slices.Chunk at bytes that are parted without a rest. -/
namespace Go.Proofs.YthbcdpckckellaaDoor
open Go.RowKit Go.Shelf
set_option linter.unusedVariables false
set_option linter.unusedSimpArgs false
attribute [local go_sem] Oper.semAt_some
/-- a part of k bytes: its value, and what it reads as wherever what lay below n₀ lies on -/
def ChunkK (k n₀ : Nat) (w : World) := { x : Value × List UInt8 // x.2.length = k ∧ ∀ W', Below n₀ w W' → Sl encB W' x.1 x.2 }
set_option maxRecDepth 100000 in
set_option maxHeartbeats 2000000 in
theorem chunkk1_in (F : Fence) (n : Nat) (h7 : F.fn 38) (hro : F.round = none) (hn : 1 ≤ n) (l Bs Bn n₀ b off cap k : Nat) (bs : List UInt8) (hk : 1 ≤ k ∧ k ≤ 1000) (hlen : bs.length ≤ 1000000000) (hdv : k ∣ bs.length) (hcap : bs.length ≤ cap ∧ cap ≤ maxLen) (hb : b < n₀) (w : World) (hc : ∀ i (h : i < bs.length), w.cell? ⟨b, off + i, none⟩ = some (encB bs[i])) (J Jx : List (ChunkK k n₀ w) → World → Prop)
    (hD : ∀ pre W, J pre W → J pre W.drew) (hY : ∀ pre x W, J pre W → pre.length < chunkN k bs.length → YieldAt F (n - 1) Tryd.prog l #[x.1.1] W fun e W' =>
      (e = .returned (.bool true) ∧ J (pre ++ [x]) W' ∧ KpC n₀ Bs Bn W W') ∨ (e = .returned (.bool false) ∧ Jx (pre ++ [x]) W'))
    (W : World) (hW : Below n₀ w W) (hBs : W.heap[Bs]? = some (.cells #[.slice (some ⟨b, off, none⟩) bs.length cap] 26 (0, 0))) (hBn : W.heap[Bn]? = some (.cells #[.int .i64 k] 3 (0, 0))) (h0 : J [] W) :
    CallsIn F n Tryd.prog 38 #[.func (.yield l) #[] #[], .pointer (some ⟨Bs, 0, none⟩), .pointer (some ⟨Bn, 0, none⟩)] W fun e W' => (∃ v, e = .returned v) ∧
      ((∃ ys : List (ChunkK k n₀ w), ys.map (fun x => x.1.2) = (List.range (chunkN k bs.length)).map (chunkAt k bs) ∧ J ys W') ∨ (∃ pre, True ∧ Jx pre W')) := by
  refine callsIn_of_wp Tryd.func38 rfl h7 ?_ hro
  simp only [Tryd.ntmps38, List.size_toArray, List.length_cons, List.length_nil, Nat.reduceAdd, Nat.reduceSub, Array.replicate_succ, Array.replicate_zero, List.push_toArray, List.append_toArray, List.nil_append, List.cons_append]
  gi_wp2
  gi_loopw [4] (fun i wr => ∃ (r : Nat) (pre : List (ChunkK k n₀ w)), i = .int .i64 (r * k : Nat) ∧ r ≤ chunkN k bs.length ∧ pre.map (fun x => x.1.2) = (List.range r).map (chunkAt k bs) ∧ J pre wr ∧ KpC n₀ Bs Bn W wr)
    (fun i _ => bs.length + 1000 - (intOf i).toNat)
  case atStart => exact ⟨0, [], by simp, by omega, by simp, h0, KpC.refl _ _ _ _⟩
  case round =>
    obtain ⟨r, pre, rfl, hr, hpre, hJs, hnx⟩ := hrel
    have cs : wr.cell? ⟨Bs, 0, none⟩ = some (.slice (some ⟨b, off, none⟩) bs.length cap) := obj_cell (hnx.s.trans hBs) rfl
    have cn : wr.cell? ⟨Bn, 0, none⟩ = some (.int .i64 k) := obj_cell (hnx.n.trans hBn) rfl
    obtain ⟨q, hq⟩ : ∃ q, r * k = q := ⟨_, rfl⟩
    have HQ := Lib.hid hq
    rw [hq]
    by_cases hlt : q < bs.length
    · have hlr : r < chunkN k bs.length := (chunkN_lt (by omega)).2 (by rw [hq]; exact hlt)
      have hpl : pre.length = r := by have := congrArg List.length hpre; simpa using this
      have hcl : (chunkAt k bs r).length = min k (bs.length - q) := by rw [chunkAt_len, hq]
      have hsub : ∀ W', Below n₀ w W' → ∀ m, m = min k (bs.length - q) → Sl encB W' (.slice (some ⟨b, off + q, none⟩) m m) (chunkAt k bs r) := fun W' kb m hm => by
        refine .inr ⟨b, off + q, m, by rw [hcl, ← hm], by omega, by omega, fun i hi => ?_⟩
        have hi2 : q + i < bs.length := by rw [hcl] at hi; omega
        have e := (kb.cell (p := ⟨b, off + (q + i), none⟩) hb).trans (hc (q + i) hi2)
        rw [Nat.add_assoc, e]
        simp [chunkAt, hq]
      have hnext : ∀ (m : Nat), m = min k (bs.length - q) → ∀ (W3 : World) (x : ChunkK k n₀ w), x.1.2 = chunkAt k bs r → J (pre ++ [x]) W3 → KpC n₀ Bs Bn wr.drew W3 → ∃ (r' : Nat) (pre' : List (ChunkK k n₀ w)), (Value.int .i64 ((q + k : Nat) : Int)) = .int .i64 (r' * k : Nat) ∧ r' ≤ chunkN k bs.length ∧ pre'.map (fun x => x.1.2) = (List.range r').map (chunkAt k bs) ∧ J pre' W3 ∧ KpC n₀ Bs Bn W W3 := fun m hm W3 x hx hJ3 hk3 =>
        ⟨r + 1, pre ++ [x], by rw [Nat.add_mul, hq, Nat.one_mul], by omega, by rw [List.map_append, hpre, List.range_succ, List.map_append]; simp [hx], hJ3, hnx.drew.trans hk3⟩
      have hmk : k ≤ bs.length - q := by
        obtain ⟨m, hm⟩ := hdv
        rw [Nat.mul_comm] at hm
        have h1 : r < m := by
          refine Nat.lt_of_mul_lt_mul_right (a := k) ?_
          omega
        have h2 : (r + 1) * k ≤ m * k := Nat.mul_le_mul_right k h1
        rw [Nat.add_mul, Nat.one_mul] at h2
        omega
      have HCL := Lib.hid (show (chunkAt k bs r).length = k from by rw [hcl]; omega)
      have HN := Lib.hid hnext
      have HS := Lib.hid hsub
      have HPL := Lib.hid hpl
      have HLR := Lib.hid hlr
      clear hnext hsub hcl hpre hlr hpl hr
      have T1 : ((q : Int) + (k : Int)).toNat - q = k := by omega
      obtain ⟨x, hx⟩ : ∃ x : ChunkK k n₀ w, x = ⟨(.slice (some ⟨b, off + q, none⟩) k k, chunkAt k bs r), HCL.out, fun W' kb => HS.out W' kb k (by omega)⟩ := ⟨_, rfl⟩
      obtain ⟨fn, tmps, assign, body, hy, hR⟩ := hY pre x wr.drew (hD _ _ hJs) (by rw [HPL.out]; exact HLR.out)
      have hx1 : x.1.1 = .slice (some ⟨b, off + q, none⟩) k k := by rw [hx]
      have HX2 := Lib.hid (show x.1.2 = chunkAt k bs r from by rw [hx])
      rw [hx1] at hy
      clear hx hx1
      gi_wp2
      gi_region
      all_goals gi_wp2
      all_goals first
        | (exfalso; omega)
        | (refine hR.mono ?_
           rintro e W3 (⟨rfl, hJ3, hk3⟩ | ⟨rfl, hJx3⟩)
           · have cn3 : W3.cell? ⟨Bn, 0, none⟩ = some (.int .i64 k) := obj_cell (hk3.n.trans (show wr.drew.heap[Bn]? = _ from hnx.n.trans hBn)) rfl
             gi_wp2
             go_roundw
             case rel => exact HN.out k (by omega) W3 x HX2.out hJ3 hk3
             case measure => simp [intOf]; omega
           · gi_wp2
             refine bodyPost_ret (results_none rfl _ _ _) rfl ?_
             exact ⟨⟨_, rfl⟩, .inr ⟨_, trivial, hJx3⟩⟩)
    · have hr' : r = chunkN k bs.length := by
        have : ¬ r < chunkN k bs.length := fun h => hlt (by have := (chunkN_lt (by omega)).1 h; omega)
        omega
      subst hr'
      have HP := Lib.hid hpre
      clear hpre
      gi_wp2
      go_end0
      exact ⟨⟨_, rfl⟩, .inl ⟨pre, HP.out, hJs⟩⟩
/-- the iterator: all parts, in their order -/
theorem chunkk_stops (F : Fence) (n : Nat) (h7 : F.fn 38) (hro : F.round = none) (hn : 1 ≤ n) (Bs Bn n₀ k : Nat) (v : Value) (bs : List UInt8) (hk : 1 ≤ k ∧ k ≤ 1000) (hlen : bs.length ≤ 1000000000) (hdv : k ∣ bs.length) (w : World) (hn₀ : n₀ ≤ w.heap.size) (hv : Sl encB w v bs) (hvb : ∀ b off cap, v = .slice (some ⟨b, off, none⟩) bs.length cap → bs ≠ [] → b < n₀)
    (hBs : w.heap[Bs]? = some (.cells #[v] 26 (0, 0))) (hBn : w.heap[Bn]? = some (.cells #[.int .i64 k] 3 (0, 0))) :
    SeqStopsK F n Tryd.prog 38 #[.pointer (some ⟨Bs, 0, none⟩), .pointer (some ⟨Bn, 0, none⟩)] (fun x : ChunkK k n₀ w => #[x.1.1]) (KpC n₀ Bs Bn) (fun ys => ys.map (fun x => x.1.2) = (List.range (chunkN k bs.length)).map (chunkAt k bs)) (fun _ => True) (chunkN k bs.length) w := fun l J Jx W hW hJ _ hY h0 => by
  have hWn := hW.mono hn₀
  have hBs' : W.heap[Bs]? = some (.cells #[v] 26 (0, 0)) := Below.heapAt hW hBs (lt_of_block hBs)
  have hBn' : W.heap[Bn]? = some (.cells #[.int .i64 k] 3 (0, 0)) := Below.heapAt hW hBn (lt_of_block hBn)
  rcases hv with ⟨rfl, oa, cap, rfl, h1, h2⟩ | ⟨b, off, cap, rfl, h1, h2, h3⟩
  · refine (chunk1_nil_in F n h7 hro l Bs Bn oa cap J W hBs' h0).mono fun e W' ⟨he, hj⟩ => ⟨he, .inl ⟨[], ?_, hj⟩⟩
    have : chunkN k 0 = 0 := by unfold chunkN; exact Nat.div_eq_of_lt (by omega)
    simp [this]
  · by_cases hb0 : bs = []
    · subst hb0
      refine (chunk1_nil_in F n h7 hro l Bs Bn _ cap J W hBs' h0).mono fun e W' ⟨he, hj⟩ => ⟨he, .inl ⟨[], ?_, hj⟩⟩
      have : chunkN k 0 = 0 := by unfold chunkN; exact Nat.div_eq_of_lt (by omega)
      simp [this]
    · exact (chunkk1_in F n h7 hro hn l Bs Bn n₀ b off cap k bs hk hlen hdv ⟨h1, h2⟩ (hvb b off cap rfl hb0) w h3 J Jx (fun pre W hj => hJ pre W W.drew none hj ⟨rfl, rfl, rfl, Nat.le_refl _, fun _ _ _ => rfl⟩ (fun r e => by cases e)) hY W hWn hBs' hBn' h0).mono fun e W' ⟨he, h⟩ => ⟨he, h⟩
end Go.Proofs.YthbcdpckckellaaDoor
