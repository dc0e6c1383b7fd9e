import Derived.RangeFuncNested
import Derived.RangeFuncBound
import Derived.RangeFuncCalls
import Derived.RangeFuncLeaves
import Derived.RangeFuncBox
import Derived.Shelf.Abstract
import Derived.Shelf.RegionOpen
import Derived.WalkKit
import Derived.OwnWalkIn
import Derived.TacticsInMore
import Derived.LoopNIn
import Derived.LoopIn
import Derived.Test.YthbcdpckckellaaDoorSlice
import Derived.Test.YthbcdpckckellaaDoorCheck
/-! slices.Chunk at bytes: its iterator's contract. -/
namespace Go.Proofs.YthbcdpckckellaaDoor
open Go.RowKit Go.Shelf
set_option linter.unusedVariables false
set_option linter.unusedSimpArgs false
attribute [local go_sem] Oper.semAt_some
/-- the parts of bytes -/
def chunkN (k len : Nat) : Nat := (len + k - 1) / k
theorem chunkN_lt {k len r : Nat} (hk : 0 < k) : r < chunkN k len ↔ r * k < len := by
  unfold chunkN
  rw [Nat.lt_div_iff_mul_lt hk]
  omega
def chunkAt (k : Nat) (bs : List UInt8) (r : Nat) : List UInt8 := (bs.drop (r * k)).take k
theorem chunkAt_len {k : Nat} {bs : List UInt8} {r : Nat} : (chunkAt k bs r).length = min k (bs.length - r * k) := by unfold chunkAt; rw [List.length_take, List.length_drop]
/-- a part: its value, and what it reads as wherever what lay below n₀ lies on -/
def ChunkX (n₀ : Nat) (w : World) := { x : Value × List UInt8 // x.2.length ≤ 1000 ∧ ∀ W', Below n₀ w W' → Sl encB W' x.1 x.2 }
/-- what a round keeps: what lay below n₀, and the iterator's two boxes -/
structure KpC (n₀ Bs Bn : Nat) (A B : World) : Prop where
  below : Below n₀ A B
  s : B.heap[Bs]? = A.heap[Bs]?
  n : B.heap[Bn]? = A.heap[Bn]?
theorem KpC.refl (n₀ Bs Bn : Nat) (A : World) : KpC n₀ Bs Bn A A := ⟨Below.refl _ _, rfl, rfl⟩
theorem KpC.trans {n₀ Bs Bn : Nat} {A B C : World} (h : KpC n₀ Bs Bn A B) (k : KpC n₀ Bs Bn B C) : KpC n₀ Bs Bn A C := ⟨h.below.trans k.below, k.s.trans h.s, k.n.trans h.n⟩
theorem KpC.drew {n₀ Bs Bn : Nat} {A B : World} (h : KpC n₀ Bs Bn A B) : KpC n₀ Bs Bn A B.drew := ⟨Below.drewN h.below 1, h.s, h.n⟩
set_option maxRecDepth 100000 in
set_option maxHeartbeats 2000000 in
theorem chunk1_in (F : Fence) (n : Nat) (h7 : F.fn 38) (hro : F.round = none) (hn : 1 ≤ n) (l Bs Bn n₀ b off cap k : Nat) (bs : List UInt8) (hk : 1 ≤ k ∧ k ≤ 1000) (hlen : bs.length ≤ 1000000) (hcap : bs.length ≤ cap ∧ cap ≤ maxLen) (hb : b < n₀) (w : World) (hc : ∀ i (h : i < bs.length), w.cell? ⟨b, off + i, none⟩ = some (encB bs[i])) (J Jx : List (ChunkX n₀ w) → World → Prop)
    (hD : ∀ pre W, J pre W → J pre W.drew) (hY : ∀ pre x W, J pre W → pre.length < chunkN k bs.length → YieldAt F (n - 1) Tryd.prog l #[x.1.1] W fun e W' =>
      (e = .returned (.bool true) ∧ J (pre ++ [x]) W' ∧ KpC n₀ Bs Bn W W') ∨ (e = .returned (.bool false) ∧ Jx (pre ++ [x]) W'))
    (W : World) (hW : Below n₀ w W) (hBs : W.heap[Bs]? = some (.cells #[.slice (some ⟨b, off, none⟩) bs.length cap] 26 (0, 0))) (hBn : W.heap[Bn]? = some (.cells #[.int .i64 k] 3 (0, 0))) (h0 : J [] W) :
    CallsIn F n Tryd.prog 38 #[.func (.yield l) #[] #[], .pointer (some ⟨Bs, 0, none⟩), .pointer (some ⟨Bn, 0, none⟩)] W fun e W' => (∃ v, e = .returned v) ∧
      ((∃ ys : List (ChunkX n₀ w), ys.map (fun x => x.1.2) = (List.range (chunkN k bs.length)).map (chunkAt k bs) ∧ J ys W') ∨ (∃ pre, True ∧ Jx pre W')) := by
  refine callsIn_of_wp Tryd.func38 rfl h7 ?_ hro
  simp only [Tryd.ntmps38, List.size_toArray, List.length_cons, List.length_nil, Nat.reduceAdd, Nat.reduceSub, Array.replicate_succ, Array.replicate_zero, List.push_toArray, List.append_toArray, List.nil_append, List.cons_append]
  gi_wp2
  gi_loopw [4] (fun i wr => ∃ (r : Nat) (pre : List (ChunkX n₀ w)), i = .int .i64 (r * k : Nat) ∧ r ≤ chunkN k bs.length ∧ pre.map (fun x => x.1.2) = (List.range r).map (chunkAt k bs) ∧ J pre wr ∧ KpC n₀ Bs Bn W wr)
    (fun i _ => bs.length + 1000 - (intOf i).toNat)
  case atStart => exact ⟨0, [], by simp, by omega, by simp, h0, KpC.refl _ _ _ _⟩
  case round =>
    obtain ⟨r, pre, rfl, hr, hpre, hJs, hnx⟩ := hrel
    have cs : wr.cell? ⟨Bs, 0, none⟩ = some (.slice (some ⟨b, off, none⟩) bs.length cap) := obj_cell (hnx.s.trans hBs) rfl
    have cn : wr.cell? ⟨Bn, 0, none⟩ = some (.int .i64 k) := obj_cell (hnx.n.trans hBn) rfl
    obtain ⟨q, hq⟩ : ∃ q, r * k = q := ⟨_, rfl⟩
    have HQ := Lib.hid hq
    rw [hq]
    by_cases hlt : q < bs.length
    · have hlr : r < chunkN k bs.length := (chunkN_lt (by omega)).2 (by rw [hq]; exact hlt)
      have hpl : pre.length = r := by have := congrArg List.length hpre; simpa using this
      have hcl : (chunkAt k bs r).length = min k (bs.length - q) := by rw [chunkAt_len, hq]
      have hsub : ∀ W', Below n₀ w W' → ∀ m, m = min k (bs.length - q) → Sl encB W' (.slice (some ⟨b, off + q, none⟩) m m) (chunkAt k bs r) := fun W' kb m hm => by
        refine .inr ⟨b, off + q, m, by rw [hcl, ← hm], by omega, by omega, fun i hi => ?_⟩
        have hi2 : q + i < bs.length := by rw [hcl] at hi; omega
        have e := (kb.cell (p := ⟨b, off + (q + i), none⟩) hb).trans (hc (q + i) hi2)
        rw [Nat.add_assoc, e]
        simp [chunkAt, hq]
      have hnext : ∀ (m : Nat), m = min k (bs.length - q) → ∀ (W3 : World) (x : ChunkX n₀ w), x.1.2 = chunkAt k bs r → J (pre ++ [x]) W3 → KpC n₀ Bs Bn wr.drew W3 → ∃ (r' : Nat) (pre' : List (ChunkX n₀ w)), (Value.int .i64 ((q + k : Nat) : Int)) = .int .i64 (r' * k : Nat) ∧ r' ≤ chunkN k bs.length ∧ pre'.map (fun x => x.1.2) = (List.range r').map (chunkAt k bs) ∧ J pre' W3 ∧ KpC n₀ Bs Bn W W3 := fun m hm W3 x hx hJ3 hk3 =>
        ⟨r + 1, pre ++ [x], by rw [Nat.add_mul, hq, Nat.one_mul], by omega, by rw [List.map_append, hpre, List.range_succ, List.map_append]; simp [hx], hJ3, hnx.drew.trans hk3⟩
      have HCL := Lib.hid (show (chunkAt k bs r).length ≤ 1000 from by rw [hcl]; omega)
      have HN := Lib.hid hnext
      have HS := Lib.hid hsub
      have HPL := Lib.hid hpl
      have HLR := Lib.hid hlr
      clear hnext hsub hcl hpre hlr hpl hr
      by_cases hmk : k ≤ bs.length - q
      · have T1 : ((q : Int) + (k : Int)).toNat - q = k := by omega
        obtain ⟨x, hx⟩ : ∃ x : ChunkX n₀ w, x = ⟨(.slice (some ⟨b, off + q, none⟩) k k, chunkAt k bs r), HCL.out, fun W' kb => HS.out W' kb k (by omega)⟩ := ⟨_, rfl⟩
        obtain ⟨fn, tmps, assign, body, hy, hR⟩ := hY pre x wr.drew (hD _ _ hJs) (by rw [HPL.out]; exact HLR.out)
        have hx1 : x.1.1 = .slice (some ⟨b, off + q, none⟩) k k := by rw [hx]
        have HX2 := Lib.hid (show x.1.2 = chunkAt k bs r from by rw [hx])
        rw [hx1] at hy
        clear hx hx1
        gi_wp2
        gi_region
        all_goals gi_wp2
        all_goals first
          | (exfalso; omega)
          | (refine hR.mono ?_
             rintro e W3 (⟨rfl, hJ3, hk3⟩ | ⟨rfl, hJx3⟩)
             · have cn3 : W3.cell? ⟨Bn, 0, none⟩ = some (.int .i64 k) := obj_cell (hk3.n.trans (show wr.drew.heap[Bn]? = _ from hnx.n.trans hBn)) rfl
               gi_wp2
               go_roundw
               case rel => exact HN.out k (by omega) W3 x HX2.out hJ3 hk3
               case measure => simp [intOf]; omega
             · gi_wp2
               refine bodyPost_ret (results_none rfl _ _ _) rfl ?_
               exact ⟨⟨_, rfl⟩, .inr ⟨_, trivial, hJx3⟩⟩)
      · have T1 : ((q : Int) + ((bs.length - q : Nat) : Int)).toNat - q = bs.length - q := by omega
        obtain ⟨x, hx⟩ : ∃ x : ChunkX n₀ w, x = ⟨(.slice (some ⟨b, off + q, none⟩) (bs.length - q) (bs.length - q), chunkAt k bs r), HCL.out, fun W' kb => HS.out W' kb (bs.length - q) (by omega)⟩ := ⟨_, rfl⟩
        obtain ⟨fn, tmps, assign, body, hy, hR⟩ := hY pre x wr.drew (hD _ _ hJs) (by rw [HPL.out]; exact HLR.out)
        have hx1 : x.1.1 = .slice (some ⟨b, off + q, none⟩) (bs.length - q) (bs.length - q) := by rw [hx]
        have HX2 := Lib.hid (show x.1.2 = chunkAt k bs r from by rw [hx])
        rw [hx1] at hy
        clear hx hx1
        gi_wp2
        gi_region
        all_goals gi_wp2
        all_goals first
          | (exfalso; omega)
          | (refine hR.mono ?_
             rintro e W3 (⟨rfl, hJ3, hk3⟩ | ⟨rfl, hJx3⟩)
             · have cn3 : W3.cell? ⟨Bn, 0, none⟩ = some (.int .i64 k) := obj_cell (hk3.n.trans (show wr.drew.heap[Bn]? = _ from hnx.n.trans hBn)) rfl
               gi_wp2
               go_roundw
               case rel => exact HN.out (bs.length - q) (by omega) W3 x HX2.out hJ3 hk3
               case measure => simp [intOf]; omega
             · gi_wp2
               refine bodyPost_ret (results_none rfl _ _ _) rfl ?_
               exact ⟨⟨_, rfl⟩, .inr ⟨_, trivial, hJx3⟩⟩)
    · have hr' : r = chunkN k bs.length := by
        have : ¬ r < chunkN k bs.length := fun h => hlt (by have := (chunkN_lt (by omega)).1 h; omega)
        omega
      subst hr'
      have HP := Lib.hid hpre
      clear hpre
      gi_wp2
      go_end0
      exact ⟨⟨_, rfl⟩, .inl ⟨pre, HP.out, hJs⟩⟩
set_option maxRecDepth 100000 in
set_option maxHeartbeats 1000000 in
/-- .. where there are no bytes: no round -/
theorem chunk1_nil_in (F : Fence) (n : Nat) (h7 : F.fn 38) (hro : F.round = none) {α : Type} (l Bs Bn : Nat) (oa : Option Addr) (cap : Nat) (J : List α → World → Prop) (W : World) (hBs : W.heap[Bs]? = some (.cells #[.slice oa 0 cap] 26 (0, 0))) (h0 : J [] W) :
    CallsIn F n Tryd.prog 38 #[.func (.yield l) #[] #[], .pointer (some ⟨Bs, 0, none⟩), .pointer (some ⟨Bn, 0, none⟩)] W fun e W' => (∃ v, e = .returned v) ∧ J [] W' := by
  have cs : W.cell? ⟨Bs, 0, none⟩ = some (.slice oa 0 cap) := obj_cell hBs rfl
  refine callsIn_of_wp Tryd.func38 rfl h7 ?_ hro
  simp only [Tryd.ntmps38, List.size_toArray, List.length_cons, List.length_nil, Nat.reduceAdd, Nat.reduceSub, Array.replicate_succ, Array.replicate_zero, List.push_toArray, List.append_toArray, List.nil_append, List.cons_append]
  gi_wp2
  gi_loopw [4] (fun i wr => i = .int .i64 0 ∧ W = wr) (fun _ _ => 0)
  case atStart => exact ⟨rfl, rfl⟩
  case round =>
    obtain ⟨rfl, rfl⟩ := hrel
    gi_wp2
    go_end0
    exact ⟨⟨_, rfl⟩, h0⟩
set_option maxHeartbeats 1000000 in
/-- slices.Chunk: both arguments are boxed; the function value has the boxes -/
theorem chunk_in (F : Fence) (n : Nat) (h5 : F.fn 30) (hro : F.round = none) (oa : Option Addr) (len cap k : Nat) (hk : 1 ≤ k) (w : World) :
    CallsIn F n Tryd.prog 30 #[.slice oa len cap, .int .i64 k] w fun e w' => e = .returned (.func (.func 38) #[] #[.pointer (some ⟨w.heap.size, 0, none⟩), .pointer (some ⟨w.heap.size + 1, 0, none⟩)]) ∧ w' = (w.alloc (.cells #[.slice oa len cap] 26)).alloc (.cells #[.int .i64 k] 3) := by
  refine callsIn_of_wp Tryd.func30 rfl h5 ?_ hro
  simp only [Tryd.ntmps30, List.size_toArray, List.length_cons, List.length_nil, Nat.reduceAdd, Nat.reduceSub, Array.replicate_succ, Array.replicate_zero, List.push_toArray, List.append_toArray, List.nil_append, List.cons_append]
  gi_wp2
  go_ret
  exact ⟨by first | rfl | simp, rfl⟩
/-- the iterator: all parts, in their order -/
theorem chunk_stops (F : Fence) (n : Nat) (h7 : F.fn 38) (hro : F.round = none) (hn : 1 ≤ n) (Bs Bn n₀ k : Nat) (v : Value) (bs : List UInt8) (hk : 1 ≤ k ∧ k ≤ 1000) (hlen : bs.length ≤ 1000000) (w : World) (hn₀ : n₀ ≤ w.heap.size) (hv : Sl encB w v bs) (hvb : ∀ b off cap, v = .slice (some ⟨b, off, none⟩) bs.length cap → bs ≠ [] → b < n₀)
    (hBs : w.heap[Bs]? = some (.cells #[v] 26 (0, 0))) (hBn : w.heap[Bn]? = some (.cells #[.int .i64 k] 3 (0, 0))) :
    SeqStopsK F n Tryd.prog 38 #[.pointer (some ⟨Bs, 0, none⟩), .pointer (some ⟨Bn, 0, none⟩)] (fun x : ChunkX n₀ w => #[x.1.1]) (KpC n₀ Bs Bn) (fun ys => ys.map (fun x => x.1.2) = (List.range (chunkN k bs.length)).map (chunkAt k bs)) (fun _ => True) (chunkN k bs.length) w := fun l J Jx W hW hJ _ hY h0 => by
  have hWn := hW.mono hn₀
  have hBs' : W.heap[Bs]? = some (.cells #[v] 26 (0, 0)) := Below.heapAt hW hBs (lt_of_block hBs)
  have hBn' : W.heap[Bn]? = some (.cells #[.int .i64 k] 3 (0, 0)) := Below.heapAt hW hBn (lt_of_block hBn)
  rcases hv with ⟨rfl, oa, cap, rfl, h1, h2⟩ | ⟨b, off, cap, rfl, h1, h2, h3⟩
  · refine (chunk1_nil_in F n h7 hro l Bs Bn oa cap J W hBs' h0).mono fun e W' ⟨he, hj⟩ => ⟨he, .inl ⟨[], ?_, hj⟩⟩
    have : chunkN k 0 = 0 := by unfold chunkN; exact Nat.div_eq_of_lt (by omega)
    simp [this]
  · by_cases hb0 : bs = []
    · subst hb0
      refine (chunk1_nil_in F n h7 hro l Bs Bn _ cap J W hBs' h0).mono fun e W' ⟨he, hj⟩ => ⟨he, .inl ⟨[], ?_, hj⟩⟩
      have : chunkN k 0 = 0 := by unfold chunkN; exact Nat.div_eq_of_lt (by omega)
      simp [this]
    · exact (chunk1_in F n h7 hro hn l Bs Bn n₀ b off cap k bs hk hlen ⟨h1, h2⟩ (hvb b off cap rfl hb0) w h3 J Jx (fun pre W hj => hJ pre W W.drew none hj ⟨rfl, rfl, rfl, Nat.le_refl _, fun _ _ _ => rfl⟩ (fun r e => by cases e)) hY W hWn hBs' hBn' h0).mono fun e W' ⟨he, h⟩ => ⟨he, h⟩
end Go.Proofs.YthbcdpckckellaaDoor
