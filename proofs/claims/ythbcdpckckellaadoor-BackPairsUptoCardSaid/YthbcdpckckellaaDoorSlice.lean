import Derived.Test.YthbcdpckckellaaDoorWorld
import Derived.ChangeSlices
import Derived.ProofKit
import Derived.OwnWalk
/-! Slices that are read: a slice value that reads as a list, one cell an element. Of whatever program. -/
namespace Go.Proofs.YthbcdpckckellaaDoor
open Go.RowKit
set_option linter.unusedVariables false
set_option linter.unusedSimpArgs false

/-- the slice value v reads as the list l; an element's one cell is 'enc' of it -/
def Sl {α : Type} (enc : α → Value) (w : World) (v : Value) (l : List α) : Prop :=
  (l = [] ∧ ∃ (oa : Option Addr) (cap : Nat), v = .slice oa 0 cap ∧ cap ≤ maxLen ∧ (oa = none → cap = 0)) ∨
  ∃ (b off : Nat) (cap : Nat), v = .slice (some ⟨b, off, none⟩) l.length cap ∧ l.length ≤ cap ∧ cap ≤ maxLen ∧ ∀ i (h : i < l.length), w.cell? ⟨b, off + i, none⟩ = some (enc l[i])

namespace Sl
variable {α : Type} {enc : α → Value}
theorem nil (w : World) : Sl enc w (.slice none 0 0) [] := .inl ⟨rfl, none, 0, rfl, by simp, fun _ => rfl⟩
theorem len {w : World} {v : Value} {l : List α} (h : Sl enc w v l) : l.length ≤ maxLen := by
  rcases h with ⟨rfl, _⟩ | ⟨b, off, cap, _, h1, h2, _⟩
  · simp
  · omega
theorem lt {w : World} {a : Addr} {x : Value} (h : w.cell? a = some x) : a.block < w.heap.size := by
  rcases Nat.lt_or_ge a.block w.heap.size with h' | h'
  · exact h'
  · simp [World.cell?, Array.getElem?_eq_none h'] at h
/-- it reads as it did where its cells read as they did -/
theorem keep {w w' : World} {v : Value} {l : List α} (h : Sl enc w v l) (hb : ∀ a : Addr, a.block < w.heap.size → (∀ oa n cap, v = .slice oa n cap → ∀ x, oa = some x → x.block = a.block) → w'.cell? a = w.cell? a) : Sl enc w' v l := by
  rcases h with h | ⟨b, off, cap, h0, h1, h2, h3⟩
  · exact .inl h
  · refine .inr ⟨b, off, cap, h0, h1, h2, fun i hi => ?_⟩
    rw [hb ⟨b, off + i, none⟩ (lt (h3 i hi)) (fun oa n cap' e x hx => by rw [h0] at e; cases e; cases hx; rfl)]
    exact h3 i hi
theorem below {w w' : World} {v : Value} {l : List α} (h : Sl enc w v l) (hb : Below w.heap.size w w') : Sl enc w' v l :=
  h.keep (fun a ha _ => hb.cell ha)
theorem take {w : World} {b off : Nat} {cap n : Nat} {l : List α} (h : ∀ i (h : i < l.length), w.cell? ⟨b, off + i, none⟩ = some (enc l[i])) (hn : n ≤ l.length) (hl : l.length ≤ cap) (hm : cap ≤ maxLen) :
    Sl enc w (.slice (some ⟨b, off, none⟩) n cap) (l.take n) := by
  have hlen : (l.take n).length = n := by simp; omega
  refine .inr ⟨b, off, cap, by rw [hlen], by omega, hm, fun i hi => ?_⟩
  rw [h i (by omega)]
  simp
theorem drewN {w : World} {v : Value} {l : List α} (h : Sl enc w v l) (n : Nat) : Sl enc (w.drewN n) v l := h.keep (fun a _ _ => rfl)
theorem drew {w : World} {v : Value} {l : List α} (h : Sl enc w v l) : Sl enc w.drew v l := h.keep (fun a _ _ => rfl)
/-- a slice of the call's own -/
theorem own {w : World} {g : Nat} {cs : Array Value} {T : TypeId} {n cap : Nat} {l : List α} (hg : w.heap[g]? = some (.cells cs T (0, 0))) (hn : l.length = n) (hl : n ≤ cap) (hm : cap ≤ maxLen) (hc : ∀ i (h : i < l.length), cs[i]? = some (enc l[i])) :
    Sl enc w (.slice (some ⟨g, 0, none⟩) n cap) l :=
  .inr ⟨g, 0, cap, by rw [hn], by omega, hm, fun i hi => by rw [Nat.zero_add]; exact obj_cell hg (hc i hi)⟩
theorem empty {w : World} {oa : Option Addr} {cap : Nat} (hm : cap ≤ maxLen) (h : oa = none → cap = 0) : Sl enc w (.slice oa 0 cap) [] := .inl ⟨rfl, oa, cap, rfl, hm, h⟩
end Sl

/-- a row that has been made whole -/
theorem row_at {w : World} {base e g n : Nat} {xs : List Value} (h : w.ownsRow base e 1 (.slice (some ⟨g, 0, none⟩) n n) n xs) : w.heap[g]? = some (.cells xs.toArray e (0, 0)) := by
  obtain ⟨h1, h2⟩ := h
  rcases h2 with ⟨h3, _⟩ | ⟨g', cap, cur, hv, _, hg, _, _, hs, ht⟩
  · cases h3
  · simp only [Value.slice.injEq, Option.some.injEq, Addr.mk.injEq, true_and, and_true] at hv
    obtain ⟨rfl, rfl⟩ := hv
    rw [hg]
    have e : cur.toList = xs := by rw [← ht, List.take_of_length_le (by simp [hs])]
    rw [← e]
theorem below_grown {w w' : World} (h : w.grownBy w' none) : Below w.heap.size w w' := (Below.refl _ _).grown h (Nat.le_refl _) (fun k hk => by cases hk)

/-- bytes -/
abbrev encB (c : UInt8) : Value := .int .u8 (c.toNat : Int)
/-- integers -/
abbrev encI (n : Int) : Value := .int .i64 n
abbrev IsBytes (w : World) (v : Value) (l : List UInt8) : Prop := Sl encB w v l
def IsInts (w : World) (v : Value) (l : List Int) : Prop := Sl encI w v l ∧ ∀ n ∈ l, -9223372036854775808 ≤ n ∧ n ≤ 9223372036854775807

theorem IsInts.below {w w' : World} {v : Value} {l : List Int} (h : IsInts w v l) (hb : Below w.heap.size w w') : IsInts w' v l := ⟨h.1.below hb, h.2⟩
end Go.Proofs.YthbcdpckckellaaDoor
