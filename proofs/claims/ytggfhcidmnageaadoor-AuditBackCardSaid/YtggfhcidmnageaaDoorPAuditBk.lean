import Derived.Test.YtggfhcidmnageaaDoorPAuditD
import Derived.Test.YtggfhcidmnageaaDoorRowPk
/-! The rows of the law AuditBack, in plain terms. -/
namespace Go.Proofs.YtggfhcidmnageaaDoor
open Go.RowKit
set_option linter.unusedVariables false
set_option linter.unusedSimpArgs false
abbrev PX := PkR × List UInt8
/-- the i-th packet -/
structure BkAt (x : PX) (i : Nat) : Prop where
  s : x.1.s = i
  t : x.1.t = 0
  l : x.1.l = 0
  lv : x.1.lv = 0
  st : x.1.st = false
  bn : x.1.bn = 1
  bc : x.1.bc = 1
  oa : ∃ k, x.1.oa = some ⟨k, 0, none⟩
  by_ : x.2 = [UInt8.ofNat i]
  lt : i < 256
/-- those of J, of P -/
def QJ (P : List PX) (J : List Nat) (Q : List PX) : Prop := Q.length = J.length ∧ ∀ (k j : Nat), J[k]? = some j → ∃ x, P[j]? = some x ∧ Q[k]? = some x
theorem QJ.nil (P : List PX) : QJ P [] [] := ⟨rfl, fun k j h => by simp at h⟩
theorem QJ.more {P Q : List PX} {J : List Nat} (h : QJ P J Q) (x : PX) : QJ (P ++ [x]) J Q := ⟨h.1, fun k j hj => by
  obtain ⟨y, h1, h2⟩ := h.2 k j hj
  exact ⟨y, by rw [List.getElem?_append_left (List.getElem?_eq_some_iff.1 h1).1]; exact h1, h2⟩⟩
theorem QJ.take {P Q : List PX} {J : List Nat} (h : QJ P J Q) {j : Nat} {x : PX} (hx : P[j]? = some x) : QJ P (J ++ [j]) (Q ++ [x]) := ⟨by simp [h.1], fun k i hi => by
  rcases Nat.lt_trichotomy k J.length with q | q | q
  · rw [List.getElem?_append_left q] at hi
    obtain ⟨y, h1, h2⟩ := h.2 k i hi
    exact ⟨y, h1, by rw [List.getElem?_append_left (by rw [h.1]; exact q)]; exact h2⟩
  · subst q
    simp at hi
    subst hi
    exact ⟨x, hx, by rw [← h.1]; simp⟩
  · rw [List.getElem?_eq_none (by simp; omega)] at hi; cases hi⟩
/-- all that were sent -/
def PB (P : List PX) : Prop := ∀ (i : Nat) (x : PX), P[i]? = some x → BkAt x i
theorem bk_alike {P : List PX} (h : PB P) {i j : Nat} {x y : PX} (hx : P[i]? = some x) (hy : P[j]? = some y) : Pl.alikeP (pbP x) (pbP y) = decide (i = j) := by
  have a := h i x hx
  have b := h j y hy
  have ha := a.lt
  have hb := b.lt
  unfold Pl.alikeP pbP
  simp only [a.l, a.lv, a.st, b.l, b.lv, b.st, a.by_, b.by_, true_and]
  rw [Bool.eq_iff_iff]
  simp only [decide_eq_true_eq, List.cons.injEq, and_true]
  constructor
  · intro e
    have := congrArg UInt8.toNat e
    simp at this
    omega
  · intro e; rw [e]
namespace Pl
theorem chn_of {P Q : List PX} {J : List Nat} (hP : PB P) (hJ : J.Pairwise (· < ·)) (hQ : QJ P J Q) (R : List Pk) (hR : ∀ (k : Nat) (x : PX), Q[k]? = some x → R[k]? = some (pbP x)) : ∀ n, n ≤ J.length → ∃ f, Chn (P.map pbP) R n (J.take n) f ∧ (∀ j, J[n]? = some j → f ≤ j) ∧ (∀ j, 0 < n → J[n - 1]? = some j → f = j + 1) := by
  intro n
  induction n with
  | zero => exact fun _ => ⟨0, by simpa using Chn.nil, fun j _ => Nat.zero_le _, fun j h => by omega⟩
  | succ n ih =>
    intro hn
    obtain ⟨f, h1, h2, -⟩ := ih (by omega)
    have hj := List.getElem?_eq_getElem (show n < J.length by omega)
    obtain ⟨x, hx, hq⟩ := hQ.2 n _ hj
    refine ⟨J[n] + 1, ?_, fun j hj' => ?_, fun j _ hj' => ?_⟩
    · rw [List.take_add_one, hj]
      refine .snoc h1 (hR n x hq) ⟨h2 _ hj, ⟨pbP x, by rw [List.getElem?_map, hx]; rfl, ?_⟩, fun i y hfi hij hy => ?_⟩
      · rw [bk_alike hP hx hx]; simp
      · rw [List.getElem?_map] at hy
        obtain ⟨y', hy', rfl⟩ := Option.map_eq_some_iff.1 hy
        rw [bk_alike hP hy' hx]
        exact decide_eq_false (by omega)
    · have h3 := (List.getElem?_eq_some_iff.1 hj').1
      have h4 := (List.pairwise_iff_getElem.1 hJ) n (n + 1) (by omega) h3 (by omega)
      rw [List.getElem?_eq_getElem h3] at hj'
      cases hj'
      omega
    · rw [show n + 1 - 1 = n from rfl, hj] at hj'
      cases hj'; rfl
theorem bk_all {P Q : List PX} {J : List Nat} (hP : PB P) (hJ : J.Pairwise (· < ·)) (hQ : QJ P J Q) (hp : P.length ≤ 1000) (hq : Q.length ≤ 1000) : PlacesR (P.map pbP) (Q.map pbP) J 0 0 := by
  refine .inr ⟨by simp; omega, .inl ?_⟩
  obtain ⟨f, h, -⟩ := chn_of hP hJ hQ (Q.map pbP) (fun k x h => by rw [List.getElem?_map, h]; rfl) J.length (Nat.le_refl _)
  rw [List.take_length] at h
  exact ⟨f, by rw [List.length_map, hQ.1]; exact h, rfl, rfl⟩
theorem none_from {P : List PX} (hP : PB P) {j : Nat} {x : PX} (hx : P[j]? = some x) {f : Nat} (hf : j < f) : NoneAt (P.map pbP) (pbP x) f := by
  intro i y hi hy
  rw [List.getElem?_map] at hy
  obtain ⟨y', hy', rfl⟩ := Option.map_eq_some_iff.1 hy
  rw [bk_alike hP hy' hx]
  exact decide_eq_false (by omega)
/-- the first two of them the other way round -/
theorem bk_swap {P Q : List PX} {J : List Nat} (hP : PB P) (hJ : J.Pairwise (· < ·)) (hQ : QJ P J Q) (hp : P.length ≤ 1000) (hq : Q.length ≤ 1000) {q0 q1 : PX} (h0 : Q[0]? = some q0) (h1 : Q[1]? = some q1) : PlacesR (P.map pbP) (((Q.set 0 q1).set 1 q0).map pbP) [] 1 5 := by
  have hl : 1 < Q.length := (List.getElem?_eq_some_iff.1 h1).1
  have hlJ : 1 < J.length := by rw [← hQ.1]; exact hl
  obtain ⟨x0, a0, b0⟩ := hQ.2 0 _ (List.getElem?_eq_getElem (show 0 < J.length by omega))
  obtain ⟨x1, a1, b1⟩ := hQ.2 1 _ (List.getElem?_eq_getElem hlJ)
  rw [h0] at b0; cases b0
  rw [h1] at b1; cases b1
  have hlt := (List.pairwise_iff_getElem.1 hJ) 0 1 (by omega) hlJ (by omega)
  have c1 : Chn (P.map pbP) (((Q.set 0 q1).set 1 q0).map pbP) 1 [J[1]] (J[1] + 1) := by
    have : Chn (P.map pbP) (((Q.set 0 q1).set 1 q0).map pbP) (0 + 1) ([] ++ [J[1]]) (J[1] + 1) := by
      refine .snoc .nil (g := pbP q1) ?_ ⟨Nat.zero_le _, ⟨pbP q1, by rw [List.getElem?_map, a1]; rfl, by rw [bk_alike hP a1 a1]; simp⟩, fun i y _ hij hy => ?_⟩
      · rw [List.getElem?_map, List.getElem?_set_ne (by omega), List.getElem?_set_self (by omega)]; rfl
      · rw [List.getElem?_map] at hy
        obtain ⟨y', hy', rfl⟩ := Option.map_eq_some_iff.1 hy
        rw [bk_alike hP hy' a1]
        exact decide_eq_false (by omega)
    exact this
  refine .inr ⟨by simp; omega, .inr ⟨1, [J[1]], J[1] + 1, pbP q0, c1, ?_, none_from hP a0 (by omega), rfl, rfl, rfl⟩⟩
  rw [List.getElem?_map, List.getElem?_set_self (by simp; omega)]; rfl
/-- the last one twice -/
theorem bk_twice {P Q : List PX} {J : List Nat} (hP : PB P) (hJ : J.Pairwise (· < ·)) (hQ : QJ P J Q) (hp : P.length ≤ 1000) (hq : Q.length ≤ 999) {q : PX} (h0 : 0 < Q.length) (h1 : Q[Q.length - 1]? = some q) : PlacesR (P.map pbP) ((Q ++ [q]).map pbP) [] (Q.length : Int) 5 := by
  obtain ⟨f, h, -, hf⟩ := chn_of hP hJ hQ ((Q ++ [q]).map pbP) (fun k x h => by rw [List.getElem?_map, List.getElem?_append_left (List.getElem?_eq_some_iff.1 h).1, h]; rfl) J.length (Nat.le_refl _)
  have hj := List.getElem?_eq_getElem (show J.length - 1 < J.length by have := hQ.1; omega)
  have hf2 := hf _ (by have := hQ.1; omega) hj
  obtain ⟨x, a, b⟩ := hQ.2 _ _ hj
  rw [← hQ.1, h1] at b
  cases b
  refine .inr ⟨by simp; omega, .inr ⟨J.length, J.take J.length, f, pbP q, h, ?_, none_from hP a (by omega), rfl, by rw [hQ.1], rfl⟩⟩
  rw [List.getElem?_map, ← hQ.1]; simp
theorem hol_take (J : List Nat) (j : Nat) (n : Nat) (h : n ≤ J.length) : hol (J ++ [j]) n = hol J n := by
  unfold hol
  refine List.map_congr_left fun k hk => ?_
  have := List.mem_range.1 hk
  rw [List.getD_eq_getElem?_getD, List.getD_eq_getElem?_getD, List.getD_eq_getElem?_getD, List.getD_eq_getElem?_getD, List.getElem?_append_left (by omega), List.getElem?_append_left (by omega)]
theorem hol_snoc (J : List Nat) (l j : Nat) (h : J[J.length - 1]? = some l) (h0 : 0 < J.length) : hol (J ++ [j]) (J ++ [j]).length = hol J J.length ++ [(j : Int) - l - 1] := by
  rw [List.length_append, List.length_singleton, hol_step _ _ h0, hol_take _ _ _ (Nat.le_refl _)]
  congr 2
  rw [List.getD_eq_getElem?_getD, List.getD_eq_getElem?_getD, List.getElem?_append_left (show J.length - 1 < J.length by omega), h]
  simp
end Pl
theorem bk_row {P : List PX} (hP : PB P) (hp : P.length ≤ 1000) : Pl.RowR (P.map pbP) 0 0 := by
  refine Pl.RowR.row (by simpa using hp) (fun i p h => ?_) (fun i p q hi h h' => ?_)
  · rw [List.getElem?_map] at h
    obtain ⟨x, hx, rfl⟩ := Option.map_eq_some_iff.1 h
    have a := hP i x hx
    unfold pbP Pl.pkFault
    simp only [a.s, a.t, a.l, a.lv, a.by_]
    have := a.lt
    rw [if_pos (by omega), if_pos (by simp)]
  · rw [List.getElem?_map] at h h'
    obtain ⟨x, hx, rfl⟩ := Option.map_eq_some_iff.1 h
    obtain ⟨y, hy, rfl⟩ := Option.map_eq_some_iff.1 h'
    have a := hP i x hx
    have b := hP (i - 1) y hy
    have := a.lt
    show x.1.s = (y.1.s + 1) % 65536
    rw [a.s, b.s]; omega
end Go.Proofs.YtggfhcidmnageaaDoor
