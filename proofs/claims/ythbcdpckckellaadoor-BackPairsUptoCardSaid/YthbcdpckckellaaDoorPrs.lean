import Derived.Test.YthbcdpckckellaaDoorSlN
import Derived.Test.YthbcdpckckellaaDoorRecs
import Derived.Test.YthbcdpckckellaaDoorPBack
/-! Arguments that are rounds of pairs, opened; rows of pairs that the call has made. -/
namespace Go.Proofs.YthbcdpckckellaaDoor
open Go.ChangeShapes Go.WideShapes Go.ChangeAt Go.RowKit
set_option maxRecDepth 100000
set_option linter.unusedVariables false
set_option linter.unusedSimpArgs false
def Pr.cells (x : Pr) : List Value := [.int .i64 x.base, .int .i64 x.mask]
/-- one as a value -/
abbrev prV (n v : Int) : Value := .agg #[.int .i64 n, .int .i64 v]
/-- its numbers are ints -/
def Pr.Num (x : Pr) : Prop := (-9223372036854775808 ≤ x.base ∧ x.base ≤ 9223372036854775807) ∧ (-9223372036854775808 ≤ x.mask ∧ x.mask ≤ 9223372036854775807)
abbrev IsPrs (w : World) (v : Value) (l : List Pr) : Prop := SlN 2 Pr.cells w v l ∧ ∀ x ∈ l, x.Num
namespace Op
theorem listTwo {α : Type} {l : List α} (h : l.length = 2) : ∃ a b, l = [a, b] := by
  match l, h with
  | [a, b], _ => exact ⟨a, b, rfl⟩
theorem cellsPr : Tryd.prog.cellsOf 53 = 2 := by kernel_rfl
theorem cellsIntP : Tryd.prog.cellsOf 3 = 1 := by kernel_rfl
theorem pr_read {H : Type} {enc : TypeId × Value → H} {W : World} {fuel : Nat} {cs : List Value} {x : DataW H × List MemPlace}
    (h : DataW.trod enc Tryd.prog W 0 (fun _ => true) true fuel 53 cs = some x) : ∃ p : Pr, cs = p.cells ∧ p.Num := by
  obtain ⟨xs, n, _, rfl, hlen, hxl, hf⟩ := DataW.trod_struct Tryd.underlying53 h
  rw [cellsPr] at hlen
  obtain ⟨c0, c1, rfl⟩ := listTwo hlen
  obtain ⟨y0, y1, rfl⟩ := listTwo hxl
  have h0 := hf 0 _ rfl
  have h1 := hf 1 _ rfl
  simp [cellsIntP] at h0 h1
  obtain ⟨n0, e0, z0, w0⟩ := DataW.trod_int Tryd.underlying3 h0
  obtain ⟨n1, e1, z1, w1⟩ := DataW.trod_int Tryd.underlying3 h1
  simp at e0 e1
  subst e0 e1
  exact ⟨⟨n0, n1⟩, rfl, wf_i64 w0, wf_i64 w1⟩
theorem prs {H : Type} {enc : TypeId × Value → H} {W : World} {base : Nat} {v : Value} {d : DataW H} {p : List MemPlace} (hv : Value.okWide Tryd.prog W .any base 23 v)
    (h : DataW.Trod enc Tryd.prog W 0 (fun _ => true) true 23 v d p) : ∃ l, IsPrs W v l ∧ l.length + 1 ≤ Rows.uptoBulk d := by
  obtain ⟨l, h1, h2, h3⟩ := slice_read (cellsOf := Pr.cells) (Good := fun p : Pr => p.Num) Tryd.underlying23 cellsPr (by omega) (fun fuel cs x hx => pr_read hx) (fun a => by simp [Pr.cells]) hv h
  exact ⟨l, ⟨h1, h2⟩, h3⟩
end Op
theorem IsPrs.below {w w' : World} {v : Value} {l : List Pr} (h : IsPrs w v l) (k : Below w.heap.size w w') : IsPrs w' v l := ⟨h.1.below k, h.2⟩
theorem IsPrs.nil (w : World) : IsPrs w (.slice none 0 0) [] := ⟨SlN.nil _, by simp⟩
/-- its value, and its cells -/
theorem prs_read {w : World} {v : Value} {l : List Pr} (h : IsPrs w v l) : ∃ (oa : Option Addr) (c : Nat), v = .slice oa l.length c ∧ l.length ≤ c ∧ c ≤ maxLen ∧ (oa = none → c = 0) ∧ ∀ k (hk : k < l.length), ∃ b f, oa = some ⟨b, f, none⟩ ∧ b < w.heap.size ∧ w.cell? ⟨b, f + k * 2, none⟩ = some (.int .i64 l[k].base) ∧ w.cell? ⟨b, f + k * 2 + 1, none⟩ = some (.int .i64 l[k].mask) ∧ l[k].Num := by
  obtain ⟨h1, h2⟩ := h
  rcases h1 with ⟨rfl, oa, cap, rfl, r1, r4⟩ | ⟨b2, f2, c2, rfl, r1, r2, r3⟩
  · exact ⟨oa, cap, rfl, by simp, r1, r4, fun k hk => by simp at hk⟩
  · refine ⟨_, c2, rfl, r1, r2, (fun e => by cases e), fun k hk => ?_⟩
    have q0 := r3 k hk 0 _ rfl
    have q1 := r3 k hk 1 _ rfl
    exact ⟨b2, f2, rfl, Sl.lt q0, q0, q1, h2 _ (List.getElem_mem hk)⟩
/-- the first ones of them -/
theorem IsPrs.take {w : World} {oa : Option Addr} {n c : Nat} {l : List Pr} (h : IsPrs w (.slice oa n c) l) (k : Nat) (hk : k ≤ l.length) : IsPrs w (.slice oa k c) (l.take k) := by
  obtain ⟨h1, h2⟩ := h
  refine ⟨?_, fun x hx => h2 x (List.mem_of_mem_take hx)⟩
  have hlen : (l.take k).length = k := by simp; omega
  rcases h1 with ⟨rfl, oa', cap, e, r1, r4⟩ | ⟨b2, f2, c2, e, r1, r2, r3⟩
  · cases e
    have : k = 0 := by simpa using hk
    subst this
    exact .inl ⟨rfl, oa, c, rfl, r1, r4⟩
  · cases e
    refine .inr ⟨b2, f2, c, by rw [hlen], by omega, r2, fun i hi j u hu => ?_⟩
    rw [hlen] at hi
    exact r3 i (by omega) j u (by simpa using hu)
/-- a pair in memory -/
def PrIn (w : World) (g : Nat) (n v : Int) : Prop := w.heap[g]? = some (.cells #[.int .i64 n, .int .i64 v] 53 (0, 0))
theorem PrIn.cells {w : World} {g : Nat} {n v : Int} (h : PrIn w g n v) : w.cell? ⟨g, 0, none⟩ = some (.int .i64 n) ∧ w.cell? ⟨g, 1, none⟩ = some (.int .i64 v) := ⟨obj_cell h rfl, obj_cell h rfl⟩
def prK : RecK Pr := ⟨23, 53, 2, 16, Pr.cells⟩
theorem infoPr : (Tryd.prog.info? 53).map (fun i => (i.zero, i.size, i.bytes)) = some (some (prV 0 0), 2, 16) := by kernel_rfl
theorem prK_ok : prK.Ok where
  und := Tryd.underlying23
  info := by
    obtain ⟨i0, hi, hz0, hz1, hz2⟩ := info_parts infoPr
    exact ⟨i0, _, hi, hz0, hz1, hz2, rfl⟩
  pos := by decide
  len := fun x => rfl
  one := fun x u hu => by simp [prK, Pr.cells] at hu; rcases hu with rfl | rfl <;> rfl
  small := by decide
/-- a row that the call has made reads as one -/
theorem prK_prs {w : World} {M : Nat} {v : Value} {L : List Pr} (h : prK.Own w M v L) (hg : ∀ x ∈ L, x.Num) : IsPrs w v L := by
  refine ⟨?_, hg⟩
  have h' := h
  rcases h.2 with ⟨rfl, h0⟩ | ⟨g, cap, cur, rfl, hb, hgg, hc, hm, hs, ht⟩
  · have : L = [] := by simpa using h0
    subst this
    exact .inl ⟨rfl, none, 0, rfl, by simp, fun _ => rfl⟩
  · obtain ⟨oa, cap', e, rd⟩ := RecK.Own.read prK_ok h'
    cases e
    refine .inr ⟨g, 0, cap, rfl, hc, hm, fun i hi j u hu => ?_⟩
    obtain ⟨g', e, -, -, r⟩ := rd i L[i] (List.getElem?_eq_getElem hi)
    cases e
    rw [Nat.zero_add]
    exact r j u hu
/-- one more -/
theorem pr_more {W w0 : World} {M : Nat} {v : Value} {L : List Pr} (h : prK.Own W M v L) (x : Pr) (hn : L.length ≤ 999999) (K : Below M w0 W) (hM : M ≤ w0.heap.size) :
    ∃ gN capN wN, (Builtin.append_ #[23, 23] 23 #[v, .slice (some ⟨W.heap.size, 0, none⟩) 1 1]).run Tryd.prog (W.alloc (.cells #[.int .i64 x.base, .int .i64 x.mask] 53)) = .ok (.slice (some ⟨gN, 0, none⟩) (L.length + 1) capN) wN ∧ prK.Own wN M (.slice (some ⟨gN, 0, none⟩) (L.length + 1) capN) (L ++ [x]) ∧ Below M w0 wN := by
  have hMW : M ≤ W.heap.size := Nat.le_trans hM K.size
  have kA : Below M w0 (W.alloc (.cells #[.int .i64 x.base, .int .i64 x.mask] 53)) := K.alloc hMW _
  obtain ⟨vN, wN, hr, ho, hgr, hbk⟩ := RecK.run_one prK_ok (W.alloc (.cells #[.int .i64 x.base, .int .i64 x.mask] 53)) M v x L (h.below ((Below.refl _ _).alloc (Nat.le_refl _) _)) W.heap.size (obj_new _ _) hn (by simp; omega)
  have ho' := ho
  obtain ⟨gN, capN, rfl⟩ := Joins.ownsRow_form ho (by simp)
  have e : (L ++ [x]).length = L.length + 1 := by simp
  rw [e] at hr ho'
  refine ⟨gN, capN, wN, hr, by unfold RecK.Own at ho' ⊢; rw [e]; simpa using ho', ?_⟩
  exact ⟨hgr.os.trans kA.os, hgr.tape.trans kA.tape, hgr.output.trans kA.output, Nat.le_trans kA.size hgr.size, fun j hj => (hgr.block j (Nat.lt_of_lt_of_le hj (by simp; omega)) (fun e => by have := (h.lt j e.symm).1; omega)).trans (kA.block j hj)⟩
end Go.Proofs.YthbcdpckckellaaDoor
