import Derived.Test.YtbjanihblffmoaaDoorSplit
/-! pack.Split: its contract, by what it ends in. -/
namespace Go.Proofs.YtbjanihblffmoaaDoor
open Go.RowKit
set_option linter.unusedVariables false
set_option linter.unusedSimpArgs false
theorem split_full (s t l lv : Int) (st : Bool) (oa : Option Addr) (bc : Nat) (bs : List UInt8) (hp : Pl.pkOk s t l lv bs.length) (k : Nat) (hk : 1 ≤ k ∧ k ≤ 1000) (hN : 200 < max 1 (chunkN k bs.length)) (w : World) (hv : Sl encB w (.slice oa bs.length bc) bs) :
    Calls Tryd.prog 7 #[pkV s t l lv st (.slice oa bs.length bc), .int .i64 k] w fun e w' => e = .returned (.tuple #[.slice none 0 0, .iface 48 (.int .i64 4)]) ∧ Below w.heap.size w w' :=
  (split_run s t l lv st oa bc bs hp k hk w hv).mono fun e w' h => by
    unfold SplitE at h
    rw [if_pos hN] at h
    exact ⟨h.2, h.1⟩
theorem split_fits (s t l lv : Int) (st : Bool) (oa : Option Addr) (bc : Nat) (bs : List UInt8) (hp : Pl.pkOk s t l lv bs.length) (k : Nat) (hk : 1 ≤ k ∧ k ≤ 1000) (hN : ¬ 200 < max 1 (chunkN k bs.length)) (w : World) (hv : Sl encB w (.slice oa bs.length bc) bs) :
    Calls Tryd.prog 7 #[pkV s t l lv st (.slice oa bs.length bc), .int .i64 k] w fun e w' => ∃ (v : Value) (P : List PkR), e = .returned (.tuple #[v, .nilIface]) ∧ pktK.Own w' w.heap.size v P ∧ P.length = max 1 (chunkN k bs.length) ∧
      (∀ (i : Nat) (p : PkR), P[i]? = some p → p.s = (s + i) % 65536 ∧ p.t = t ∧ p.l = l ∧ p.lv = lv ∧ p.st = (st && decide (i = 0)) ∧ Sl encB w' (.slice p.oa p.bn p.bc) (chunkAt k bs i)) ∧ Below w.heap.size w w' :=
  (split_run s t l lv st oa bc bs hp k hk w hv).mono fun e w' h => by
    unfold SplitE at h
    rw [if_neg hN] at h
    obtain ⟨h0, v, P, h1, h2, h3, h4⟩ := h
    exact ⟨v, P, h1, h2, h3, h4, h0⟩
end Go.Proofs.YtbjanihblffmoaaDoor
