import Derived.Test.YtggfhcidmnageaaDoorRowPk
import Derived.Test.YtggfhcidmnageaaDoorByteKeep
import Derived.Test.YtggfhcidmnageaaDoorOut
/-! The rows of the law AuditRows: what was sent, what was got. -/
namespace Go.Proofs.YtggfhcidmnageaaDoor
open Go.RowKit
set_option linter.unusedVariables false
set_option linter.unusedSimpArgs false
/-- a packet's numbers are ints -/
def PkR.Num (x : PkR) : Prop := (-9223372036854775808 ≤ x.s ∧ x.s ≤ 9223372036854775807) ∧ (-9223372036854775808 ≤ x.t ∧ x.t ≤ 9223372036854775807) ∧ (-9223372036854775808 ≤ x.l ∧ x.l ≤ 9223372036854775807) ∧ (-9223372036854775808 ≤ x.lv ∧ x.lv ≤ 9223372036854775807)
structure ARs (N : Nat) (w : World) (b : Nat) (vS vG : Value) (P Q : List (PkR × List UInt8)) (y : World) : Prop where
  rS : pbK.Own y N vS P
  rG : pbK.Own y N vG Q
  ap : ∀ k, vS.ownBlock = some k → vG.ownBlock ≠ some k
  bS : vS.ownBlock ≠ some b
  bG : vG.ownBlock ≠ some b
  gS : ∀ x ∈ P, (pbP x).Good w
  gQ : ∀ x ∈ Q, x.1.Num ∧ IsBytes y (.slice x.1.oa x.1.bn x.1.bc) x.2 ∧ ∀ a, x.1.oa = some a → x.2 ≠ [] → a.block < y.heap.size ∧ a.block ≠ b ∧ vS.ownBlock ≠ some a.block ∧ vG.ownBlock ≠ some a.block
  hN : N ≤ w.heap.size
  wN : w.heap.size ≤ N
  nb : N ≤ b
  kb : Below N w y
theorem ARs.keep {N : Nat} {w : World} {b : Nat} {vS vG : Value} {P Q : List (PkR × List UInt8)} {y z : World} (h : ARs N w b vS vG P Q y) (k : KeepsBut b y z) : ARs N w b vS vG P Q z where
  rS := h.rS.keep fun g e _ hg => k.block g hg (fun q => h.bS (by rw [e]; congr 1))
  rG := h.rG.keep fun g e _ hg => k.block g hg (fun q => h.bG (by rw [e]; congr 1))
  ap := h.ap
  bS := h.bS
  bG := h.bG
  gS := h.gS
  gQ := fun x hx => by
    obtain ⟨h1, h2, h3⟩ := h.gQ x hx
    refine ⟨h1, bytes_keep (P := fun j => j < y.heap.size ∧ j ≠ b) h2 (fun a ha hl => ⟨(h3 a ha hl).1, (h3 a ha hl).2.1⟩) (fun j hj => k.block j hj.1 hj.2), fun a ha hl => ?_⟩
    obtain ⟨q1, q2⟩ := h3 a ha hl
    exact ⟨Nat.lt_of_lt_of_le q1 k.size, q2⟩
  hN := h.hN
  wN := h.wN
  nb := h.nb
  kb := ⟨k.os.trans h.kb.os, k.tape.trans h.kb.tape, k.output.trans h.kb.output, Nat.le_trans h.kb.size k.size, fun j hj => (k.block j (Nat.lt_of_lt_of_le hj (Nat.le_trans h.hN h.kb.size)) (fun q => by have := h.nb; omega)).trans (h.kb.block j hj)⟩
theorem ARs.sent {N : Nat} {w : World} {b : Nat} {vS vG : Value} {P Q : List (PkR × List UInt8)} {y : World} (h : ARs N w b vS vG P Q y) : IsPks y vS (P.map pbP) :=
  pbK_pks h.rS fun x hx => (h.gS x hx).below (h.kb.mono (by have := h.wN; omega))
theorem ARs.got {N : Nat} {w : World} {b : Nat} {vS vG : Value} {P Q : List (PkR × List UInt8)} {y : World} (h : ARs N w b vS vG P Q y) : IsPks y vG (Q.map pbP) :=
  pbK_pks h.rG fun x hx => ⟨(h.gQ x hx).1.1, (h.gQ x hx).1.2.1, (h.gQ x hx).1.2.2.1, (h.gQ x hx).1.2.2.2, (h.gQ x hx).2.1⟩
theorem ARs.moreG {N : Nat} {w : World} {b : Nat} {vS vG : Value} {P Q : List (PkR × List UInt8)} {y : World} (h : ARs N w b vS vG P Q y) (hby : b < y.heap.size) (hl : Q.length ≤ 999999) (x : PkR × List UInt8) (hx : x.1.Num ∧ IsBytes y (.slice x.1.oa x.1.bn x.1.bc) x.2 ∧ ∀ a, x.1.oa = some a → x.2 ≠ [] → a.block < y.heap.size ∧ a.block ≠ b ∧ vS.ownBlock ≠ some a.block ∧ vG.ownBlock ≠ some a.block) :
    ∃ v' w', (Builtin.append_ #[30, 30] 30 #[vG, .slice (some ⟨y.heap.size, 0, none⟩) 1 1]).run Tryd.prog (y.alloc (.cells (PkR.cells x.1).toArray 29)) = .ok v' w' ∧ ARs N w b vS v' P (Q ++ [x]) w' ∧ y.heap.size ≤ w'.heap.size ∧ ∀ j o, y.heap[j]? = some o → vG.ownBlock ≠ some j → w'.heap[j]? = some o := by
  have hNy : N ≤ y.heap.size := Nat.le_trans h.hN h.kb.size
  have kA : Below y.heap.size y (y.alloc (.cells (PkR.cells x.1).toArray 29)) := (Below.refl _ _).alloc (Nat.le_refl _) _
  have keep : ∀ v L, pbK.Own y N v L → pbK.Own (y.alloc (.cells (PkR.cells x.1).toArray 29)) N v L := fun v L q => q.keep fun g _ _ hg => kA.block g hg
  obtain ⟨v', w', hr, ho, hg, hb⟩ := RecK.run_one pbK_ok (y.alloc (.cells (PkR.cells x.1).toArray 29)) N vG x Q (keep _ _ h.rG) y.heap.size (obj_new _ _) hl (by simp; omega)
  have hsz : y.heap.size + 1 ≤ w'.heap.size := by have := hg.size; simpa using this
  have hold : ∀ j, j < y.heap.size → vG.ownBlock ≠ some j → w'.heap[j]? = y.heap[j]? := fun j hj hn => (hg.block j (by simp; omega) (fun e => hn e.symm)).trans (kA.block j hj)
  have hnew : ∀ j, j < y.heap.size → v'.ownBlock = some j → vG.ownBlock = some j := fun j hj e => by
    rcases hb with q | q
    · rw [← q]; exact e
    · rw [q] at e; simp at e; omega
  refine ⟨v', w', hr, ⟨?_, ?_, ?_, ?_, ?_, ?_, ?_, h.hN, h.wN, h.nb, ?_⟩, by omega, fun j o hj hn => (hold j (lt_of_block hj) hn).trans hj⟩
  · exact h.rS.keep fun g e _ hg' => hold g hg' (fun q => h.ap g e q)
  · exact ho
  · intro k e q
    exact h.ap k e (hnew k (h.rS.lt k e).2 q)
  · exact h.bS
  · exact fun q => h.bG (hnew b hby q)
  · exact h.gS
  · intro z hz
    have old : z.1.Num ∧ IsBytes y (.slice z.1.oa z.1.bn z.1.bc) z.2 ∧ ∀ a, z.1.oa = some a → z.2 ≠ [] → a.block < y.heap.size ∧ a.block ≠ b ∧ vS.ownBlock ≠ some a.block ∧ vG.ownBlock ≠ some a.block := by
      rcases List.mem_append.1 hz with hz | hz
      · exact h.gQ z hz
      · have : z = x := by simpa using hz
        subst this; exact hx
    obtain ⟨h1, h2, h3⟩ := old
    refine ⟨h1, bytes_keep (P := fun j => j < y.heap.size ∧ vG.ownBlock ≠ some j) h2 (fun a ha hl => ⟨(h3 a ha hl).1, (h3 a ha hl).2.2.2⟩) (fun j hj => hold j hj.1 hj.2), fun a ha hl => ?_⟩
    obtain ⟨q1, q2, q3, q4⟩ := h3 a ha hl
    exact ⟨by omega, q2, q3, fun q => q4 (hnew _ q1 q)⟩
  · exact ⟨hg.os.trans (kA.os.trans h.kb.os), hg.tape.trans (kA.tape.trans h.kb.tape), hg.output.trans (kA.output.trans h.kb.output), Nat.le_trans h.kb.size (by omega), fun j hj => (hold j (Nat.lt_of_lt_of_le hj hNy) (fun q => by have := (h.rG.lt j q).1; omega)).trans (h.kb.block j hj)⟩
theorem ARs.moreS {N : Nat} {w : World} {b : Nat} {vS vG : Value} {P Q : List (PkR × List UInt8)} {y : World} (h : ARs N w b vS vG P Q y) (hby : b < y.heap.size) (hl : P.length ≤ 999999) (x : PkR × List UInt8) (hx : (pbP x).Good w) :
    ∃ v' w', (Builtin.append_ #[30, 30] 30 #[vS, .slice (some ⟨y.heap.size, 0, none⟩) 1 1]).run Tryd.prog (y.alloc (.cells (PkR.cells x.1).toArray 29)) = .ok v' w' ∧ ARs N w b v' vG (P ++ [x]) Q w' ∧ y.heap.size ≤ w'.heap.size ∧ ∀ j o, y.heap[j]? = some o → vS.ownBlock ≠ some j → w'.heap[j]? = some o := by
  have hNy : N ≤ y.heap.size := Nat.le_trans h.hN h.kb.size
  have kA : Below y.heap.size y (y.alloc (.cells (PkR.cells x.1).toArray 29)) := (Below.refl _ _).alloc (Nat.le_refl _) _
  have keep : ∀ v L, pbK.Own y N v L → pbK.Own (y.alloc (.cells (PkR.cells x.1).toArray 29)) N v L := fun v L q => q.keep fun g _ _ hg => kA.block g hg
  obtain ⟨v', w', hr, ho, hg, hb⟩ := RecK.run_one pbK_ok (y.alloc (.cells (PkR.cells x.1).toArray 29)) N vS x P (keep _ _ h.rS) y.heap.size (obj_new _ _) hl (by simp; omega)
  have hsz : y.heap.size + 1 ≤ w'.heap.size := by have := hg.size; simpa using this
  have hold : ∀ j, j < y.heap.size → vS.ownBlock ≠ some j → w'.heap[j]? = y.heap[j]? := fun j hj hn => (hg.block j (by simp; omega) (fun e => hn e.symm)).trans (kA.block j hj)
  have hnew : ∀ j, j < y.heap.size → v'.ownBlock = some j → vS.ownBlock = some j := fun j hj e => by
    rcases hb with q | q
    · rw [← q]; exact e
    · rw [q] at e; simp at e; omega
  refine ⟨v', w', hr, ⟨?_, ?_, ?_, ?_, ?_, ?_, ?_, h.hN, h.wN, h.nb, ?_⟩, by omega, fun j o hj hn => (hold j (lt_of_block hj) hn).trans hj⟩
  · exact ho
  · exact h.rG.keep fun g e _ hg' => hold g hg' (fun q => h.ap g q e)
  · intro k e q
    exact h.ap k (hnew k (h.rG.lt k q).2 e) q
  · exact fun q => h.bS (hnew b hby q)
  · exact h.bG
  · intro z hz
    rcases List.mem_append.1 hz with hz | hz
    · exact h.gS z hz
    · have : z = x := by simpa using hz
      subst this; exact hx
  · intro z hz
    obtain ⟨h1, h2, h3⟩ := h.gQ z hz
    refine ⟨h1, bytes_keep (P := fun j => j < y.heap.size ∧ vS.ownBlock ≠ some j) h2 (fun a ha hl => ⟨(h3 a ha hl).1, (h3 a ha hl).2.2.1⟩) (fun j hj => hold j hj.1 hj.2), fun a ha hl => ?_⟩
    obtain ⟨q1, q2, q3, q4⟩ := h3 a ha hl
    exact ⟨by omega, q2, fun q => q3 (hnew _ q1 q), q4⟩
  · exact ⟨hg.os.trans (kA.os.trans h.kb.os), hg.tape.trans (kA.tape.trans h.kb.tape), hg.output.trans (kA.output.trans h.kb.output), Nat.le_trans h.kb.size (by omega), fun j hj => (hold j (Nat.lt_of_lt_of_le hj hNy) (fun q => by have := (h.rS.lt j q).1; omega)).trans (h.kb.block j hj)⟩
end Go.Proofs.YtggfhcidmnageaaDoor
