import Derived.Test.YtnbcajciobfljaaDoorViewBump
import Derived.Test.YtnbcajciobfljaaDoorRefView
import Derived.Test.YtnbcajciobfljaaDoorSameMb
import Derived.Test.YtnbcajciobfljaaDoorSlRows
import Derived.Test.YtnbcajciobfljaaDoorErrV
/-! The contracts of package view, by the fault. -/
namespace Go.Proofs.YtnbcajciobfljaaDoor
open Go.RowKit
set_option linter.unusedVariables false
set_option linter.unusedSimpArgs false
namespace Pl
def mrgL (A B : List Mb) (f : Int) : List Mb := if f = 0 then mergeV A B else []
def nwL (A B : List Mb) (f : Int) : List Mb := if f = 0 then newerV A B else []
def alvL (A : List Mb) (f : Int) : List Int := if f = 0 then aliveV A else []
def bmpL (A : List Mb) (n : Int) (up : Bool) (f : Int) : List Mb := if f = 0 then putV A (bumpM A n up) else []
/-- those that are not there as they are -/
def newW (A L : List Mb) : List Mb := L.filter fun m => decide (vat A m.n ≠ some m)
theorem newW_more {A L : List Mb} {i : Nat} (h : i < L.length) : newW A (L.take (i + 1)) = newW A (L.take i) ++ (if vat A L[i].n ≠ some L[i] then [L[i]] else []) := by
  rw [take_more h]; unfold newW; rw [List.filter_append]
  congr 1
  rw [List.filter_cons]
  by_cases e : vat A L[i].n ≠ some L[i]
  · rw [if_pos e, if_pos (decide_eq_true e)]; rfl
  · rw [if_neg e, if_neg (by simpa using e)]; rfl
theorem newW_eq {A B : List Mb} (h : GoodV A) (h' : GoodV B) : newW A (mergeV A B) = newerV A B := by
  have g := mergeV_good h h'.ok
  have g2 := newerV_good (A := A) h'
  refine vat_ext (g.ris.filter _) g2.ris fun n => ?_
  unfold newW newerV
  rw [vat_filter g.ris, vat_filter h'.ris, vat_merge h.ris h'.ris]
  cases eb : vat B n with
  | none =>
    cases ea : vat A n with
    | none => rfl
    | some a =>
      have := vat_n ea
      simp [jo, Option.filter, this, ea]
  | some b =>
    have hb := vat_n eb
    have q : isNew A b = match vat A n with | none => true | some x => decide (key x < key b) := by unfold isNew; rw [hb]; rfl
    cases ea : vat A n with
    | none =>
      rw [ea] at q
      simp [jo, jn, Option.filter, q, hb, ea]
    | some a =>
      have ha := vat_n ea
      rw [ea] at q
      by_cases k : key a < key b
      · have hne : a ≠ b := fun e => by rw [e] at k; omega
        simp [jo, jn, Option.filter, q, k, hb, ea, hne]
      · simp [jo, jn, Option.filter, q, k, ha, ea]
end Pl
theorem chk_f (v : Value) (L : List Mb) (w : World) (h : IsMs w v L) (f : Int) (hf : Pl.ViewF L f) :
    Calls Tryd.prog 6 #[v] w fun e w' => e = .returned (errV f) ∧ Below w.heap.size w w' :=
  (viewCheck_any v L w h).mono fun e w' ⟨f', h1, h2, h3⟩ => by
    obtain rfl := hf.eq h2
    exact ⟨h1, h3⟩
theorem ref_f (v : Value) (L : List Mb) (w : World) (h : IsMs w v L) (f : Int) (hf : Pl.ViewF L f) :
    Calls Tryd.prog 4 #[v] w fun e w' => e = .returned (.int .i64 f) ∧ Below w.heap.size w w' :=
  (refView_any v L w h).mono fun e w' ⟨f', h1, h2, h3⟩ => by
    obtain rfl := hf.eq h2
    exact ⟨h1, h3⟩
theorem mrg_f (v1 v2 : Value) (A B : List Mb) (w : World) (h1 : IsMs w v1 A) (h2 : IsMs w v2 B) (f : Int) (hf : Pl.BothF A B f) :
    Calls Tryd.prog 9 #[v1, v2] w fun e w' => ∃ v', e = .returned (.tuple #[v', errV f]) ∧ IsMs w' v' (Pl.mrgL A B f) ∧ Below w.heap.size w w' :=
  (merge_any v1 v2 A B w h1 h2).mono fun e w' ⟨f', v', h1, h2, h3, h4⟩ => by
    obtain rfl := hf.eq h2
    exact ⟨v', h1, h3, h4⟩
theorem nwr_f (v1 v2 : Value) (A B : List Mb) (w : World) (h1 : IsMs w v1 A) (h2 : IsMs w v2 B) (f : Int) (hf : Pl.BothF A B f) :
    Calls Tryd.prog 10 #[v1, v2] w fun e w' => ∃ v', e = .returned (.tuple #[v', errV f]) ∧ IsMs w' v' (Pl.nwL A B f) ∧ Below w.heap.size w w' :=
  (newer_any v1 v2 A B w h1 h2).mono fun e w' ⟨f', v', h1, h2, h3, h4⟩ => by
    obtain rfl := hf.eq h2
    exact ⟨v', h1, h3, h4⟩
theorem alv_f (v1 : Value) (A : List Mb) (w : World) (h1 : IsMs w v1 A) (f : Int) (hf : Pl.ViewF A f) :
    Calls Tryd.prog 12 #[v1] w fun e w' => ∃ v', e = .returned (.tuple #[v', errV f]) ∧ IRow w' w.heap.size v' (Pl.alvL A f) ∧ Below w.heap.size w w' :=
  (alive_any v1 A w h1).mono fun e w' ⟨f', v', h1, h2, h3, h4⟩ => by
    obtain rfl := hf.eq h2
    exact ⟨v', h1, h3, h4⟩
theorem bmp_f (v1 : Value) (A : List Mb) (n : Int) (up : Bool) (w : World) (h1 : IsMs w v1 A) (f : Int) (hf : Pl.BumpF A n up f) :
    Calls Tryd.prog 14 #[v1, .int .i64 n, .bool up] w fun e w' => ∃ v', e = .returned (.tuple #[v', errV f]) ∧ IsMs w' v' (Pl.bmpL A n up f) ∧ Below w.heap.size w w' :=
  (bump_any v1 A n up w h1).mono fun e w' ⟨f', v', h1, h2, h3, h4⟩ => by
    obtain rfl := hf.eq h2
    exact ⟨v', h1, h3, h4⟩
theorem one_ms {w : World} {g : Nat} {x : Mb} (h : w.heap[g]? = some (.cells #[.int .i64 x.n, .int .i64 x.v, .bool x.up] 30 (0, 0))) (hx : x.Num) : IsMs w (.slice (some ⟨g, 0, none⟩) 1 1) [x] := by
  refine ⟨.inr ⟨g, 0, 1, rfl, Nat.le_refl _, by unfold maxLen; omega, fun i hi j u hu => ?_⟩, by simpa using hx⟩
  obtain rfl : i = 0 := by simp at hi; omega
  rw [Nat.zero_mul, Nat.zero_add, Nat.zero_add]
  exact obj_cell h (by simpa [Mb.cells] using hu)
theorem sameIs_b (v1 v2 : Value) (l : List Int) (w : World) (h1 : Sl encI w v1 l) (h2 : Sl encI w v2 l) :
    Calls Tryd.prog 13 #[v1, v2] w fun e w' => e = .returned (.bool true) ∧ Below w.heap.size w w' :=
  (sameInts_eq v1 v2 l w h1 h2).mono fun e w' ⟨h, n, hn⟩ => ⟨h, hn ▸ Below.drewN (Below.refl _ _) n⟩
end Go.Proofs.YtnbcajciobfljaaDoor
