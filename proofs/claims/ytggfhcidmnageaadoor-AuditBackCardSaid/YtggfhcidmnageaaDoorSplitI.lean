import Derived.Test.YtggfhcidmnageaaDoorChunk
import Derived.Test.YtggfhcidmnageaaDoorRecs
import Derived.Test.YtggfhcidmnageaaDoorClone
import Derived.Test.YtggfhcidmnageaaDoorByteKeep
import Derived.Test.YtggfhcidmnageaaDoorPkIn
import Derived.Laws.OwnMore
/-! pack.Split: rows of packets, what a round leaves. -/
namespace Go.Proofs.YtggfhcidmnageaaDoor
open Go.RowKit
set_option linter.unusedVariables false
set_option linter.unusedSimpArgs false
/-- a packet as its cells say -/
structure PkR where
  s : Int
  t : Int
  l : Int
  lv : Int
  st : Bool
  oa : Option Addr
  bn : Nat
  bc : Nat
def PkR.cells (x : PkR) : List Value := [.int .i64 x.s, .int .i64 x.t, .int .i64 x.l, .int .i64 x.lv, .bool x.st, .slice x.oa x.bn x.bc]
theorem infoPkR : (Tryd.prog.info? 29).map (fun i => (i.zero, i.size, i.bytes)) = some (some (.agg #[.int .i64 0, .int .i64 0, .int .i64 0, .int .i64 0, .bool false, .slice none 0 0]), 6, 64) := by kernel_rfl
def pktK : RecK PkR := ⟨30, 29, 6, 64, PkR.cells⟩
theorem pktK_ok : pktK.Ok where
  und := Tryd.underlying30
  info := by
    obtain ⟨i0, hi, hz0, hz1, hz2⟩ := info_parts infoPkR
    exact ⟨i0, _, hi, hz0, hz1, hz2, rfl⟩
  pos := by decide
  len := fun _ => rfl
  one := fun x u hu => by simp [pktK, PkR.cells] at hu; rcases hu with rfl | rfl | rfl | rfl | rfl | rfl <;> rfl
  small := by decide
/-- a store into a record's cell -/
theorem RecK.set_at {α : Type} (R : RecK α) (h : R.Ok) (L : List α) (k : Nat) (hk : k < L.length) (j : Nat) (hj : j < R.n) (u : Value) (x : α) (hx : R.cells x = (R.cells L[k]).set j u) : (R.all L).set (k * R.n + j) u = R.all (L.set k x) := by
  induction L generalizing k with
  | nil => simp at hk
  | cons y r ih =>
    have e : ∀ (z : α) (s : List α), R.all (z :: s) = R.cells z ++ R.all s := fun z s => by simp [RecK.all]
    have hl := h.len y
    cases k with
    | zero =>
      rw [List.set_cons_zero, e, e, hx, Nat.zero_mul, Nat.zero_add, List.set_append_left _ _ (by omega)]; rfl
    | succ k =>
      have q : (k + 1) * R.n = k * R.n + R.n := by rw [Nat.add_mul]; omega
      rw [List.set_cons_succ, e, e, List.set_append_right _ _ (by omega), hl, show (k + 1) * R.n + j - R.n = k * R.n + j by omega, ih k (by simpa using hk) hx]
/-- the parts so far -/
structure SplitI (n₀ : Nat) (w : World) (L0 B2 Bs Bn k : Nat) (s t l lv : Int) (st : Bool) (bv : Value) (bss : List (List UInt8)) (W : World) : Prop where
  ex : ∃ (v : Value) (P : List PkR), W.heap[L0]? = some (.cells #[v] 30 (0, 0)) ∧ pktK.Own W n₀ v P ∧ P.length = bss.length ∧ v.ownBlock ≠ some B2 ∧
    ∀ (i : Nat) (bs : List UInt8), bss[i]? = some bs → ∃ p : PkR, P[i]? = some p ∧ p.s = s ∧ p.t = t ∧ p.l = l ∧ p.lv = lv ∧ p.st = st ∧ Sl encB W (.slice p.oa p.bn p.bc) bs ∧ ∀ a, p.oa = some a → bs ≠ [] → n₀ ≤ a.block ∧ a.block < W.heap.size ∧ a.block ≠ L0 ∧ v.ownBlock ≠ some a.block
  box : PkIn W B2 s t l lv st bv
  kb : Below n₀ w W
  lo : n₀ ≤ L0 ∧ n₀ ≤ B2
  sb : W.heap[Bs]? = some (.cells #[bv] 27 (0, 0))
  nb : W.heap[Bn]? = some (.cells #[.int .i64 k] 3 (0, 0))
namespace SplitI
variable {n₀ : Nat} {w : World} {L0 B2 Bs Bn k : Nat} {s t l lv : Int} {st : Bool} {bv : Value} {bss : List (List UInt8)} {W W' : World} {oa : Option Addr} {bn bc : Nat}
/-- its cells read as they did -/
theorem keep (h : SplitI n₀ w L0 B2 Bs Bn k s t l lv st bv bss W) (kk : ∀ (j : Nat) (cs : Array Value) (T : TypeId) (fz : Nat × Nat), W.heap[j]? = some (.cells cs T fz) → W'.heap[j]? = some (.cells cs T fz)) (kb : Below n₀ w W') (hs : W.heap.size ≤ W'.heap.size) : SplitI n₀ w L0 B2 Bs Bn k s t l lv st bv bss W' := by
  obtain ⟨⟨v, P, h1, h2, h3, h0, h4⟩, h5, h6, h7, h8, h9⟩ := h
  refine ⟨⟨v, P, kk _ _ _ _ h1, h2.keep (fun g hg _ hl => ?_), h3, h0, fun i bs hb => ?_⟩, kk _ _ _ _ h5, kb, h7, kk _ _ _ _ h8, kk _ _ _ _ h9⟩
  · rcases h2.2 with ⟨rfl, _⟩ | ⟨g', cap, cur, rfl, _, hg', _⟩
    · cases hg
    · simp [Value.ownBlock] at hg; subst hg
      rw [kk _ _ _ _ hg', hg']
  · obtain ⟨p, e1, e2, e3, e4, e5, e6, e7, e8⟩ := h4 i bs hb
    refine ⟨p, e1, e2, e3, e4, e5, e6, ?_, fun a ha hne => ?_⟩
    · rcases e7 with e7 | ⟨b, off, cap, c0, c1, c2, c3⟩
      · exact .inl e7
      · refine .inr ⟨b, off, cap, c0, c1, c2, fun i hi => ?_⟩
        have c := c3 i hi
        obtain ⟨cs, T, fz, hb'⟩ : ∃ cs T fz, W.heap[b]? = some (.cells cs T fz) := by
          unfold World.cell? at c
          simp only at c
          split at c
          · rename_i cs T fz e; exact ⟨_, _, _, e⟩
          · cases c
        rw [World.cell?_of_block (w := W) (w' := W') (a := ⟨b, off + i, none⟩) (by rw [kk _ _ _ _ hb', hb'])]
        exact c
    · obtain ⟨q1, q2, q3, q4⟩ := e8 a ha hne
      exact ⟨q1, by omega, q3, q4⟩
theorem below (h : SplitI n₀ w L0 B2 Bs Bn k s t l lv st bv bss W) (hn : n₀ ≤ W.heap.size) (kk : Below W.heap.size W W') : SplitI n₀ w L0 B2 Bs Bn k s t l lv st bv bss W' :=
  h.keep (fun j cs T fz e => (kk.block j (lt_of_block e)).trans e) (h.kb.trans (kk.mono hn)) kk.size
theorem own (hB : n₀ ≤ w.heap.size) {B : Nat} (hBB : n₀ ≤ B) : OwnFrom B (fun (pre : List (List UInt8)) W => SplitI n₀ w L0 B2 Bs Bn k s t l lv st bv pre W) := fun pre X Y row h hg hr => by
  refine h.keep (fun j cs T fz e => ?_) (h.kb.grown hg (Nat.le_trans hB h.kb.size) (fun k e => Nat.le_trans hBB (hr k e).1)) hg.size
  rw [hg.block j (lt_of_block e) (fun e' => by
    obtain ⟨_, o, ho, hc⟩ := hr j e'.symm
    rw [e] at ho; cases ho; cases hc)]
  exact e
/-- between the append and the clone's store -/
structure Mid (n₀ : Nat) (w : World) (L0 B2 Bs Bn k : Nat) (s t l lv : Int) (st : Bool) (bv : Value) (bss : List (List UInt8)) (gN capN : Nat) (W : World) : Prop where
  ex : ∃ (P : List PkR) (p0 : PkR), pktK.Own W n₀ (.slice (some ⟨gN, 0, none⟩) (bss.length + 1) capN) (P ++ [p0]) ∧ P.length = bss.length ∧ (p0.s = s ∧ p0.t = t ∧ p0.l = l ∧ p0.lv = lv ∧ p0.st = st) ∧ gN ≠ B2 ∧
    ∀ (i : Nat) (bs : List UInt8), bss[i]? = some bs → ∃ p : PkR, P[i]? = some p ∧ p.s = s ∧ p.t = t ∧ p.l = l ∧ p.lv = lv ∧ p.st = st ∧ Sl encB W (.slice p.oa p.bn p.bc) bs ∧ ∀ a, p.oa = some a → bs ≠ [] → n₀ ≤ a.block ∧ a.block < W.heap.size ∧ a.block ≠ L0 ∧ a.block ≠ gN
  cell : W.heap[L0]? = some (.cells #[.slice (some ⟨gN, 0, none⟩) (bss.length + 1) capN] 30 (0, 0))
  box : PkIn W B2 s t l lv st bv
  kb : Below n₀ w W
  lo : n₀ ≤ L0 ∧ n₀ ≤ B2
  sb : W.heap[Bs]? = some (.cells #[bv] 27 (0, 0))
  nb : W.heap[Bn]? = some (.cells #[.int .i64 k] 3 (0, 0))
theorem Mid.below {gN capN : Nat} (h : Mid n₀ w L0 B2 Bs Bn k s t l lv st bv bss gN capN W) (hn : n₀ ≤ W.heap.size) (kk : Below W.heap.size W W') : Mid n₀ w L0 B2 Bs Bn k s t l lv st bv bss gN capN W' := by
  obtain ⟨⟨P, p0, h1, h2, h3, h0, h4⟩, h5, h6, h7, h8, h9, h10⟩ := h
  refine ⟨⟨P, p0, h1.below kk, h2, h3, h0, fun i bs hb => ?_⟩, (kk.block _ (lt_of_block h5)).trans h5, Below.heapAt kk h6 (lt_of_block h6), h7.trans (kk.mono hn), h8, (kk.block _ (lt_of_block h9)).trans h9, (kk.block _ (lt_of_block h10)).trans h10⟩
  obtain ⟨p, e1, e2, e3, e4, e5, e6, e7, e8⟩ := h4 i bs hb
  exact ⟨p, e1, e2, e3, e4, e5, e6, e7.below kk, fun a ha hne => by
    obtain ⟨q1, q2, q3, q4⟩ := e8 a ha hne
    exact ⟨q1, Nat.lt_of_lt_of_le q2 kk.size, q3, q4⟩⟩
/-- a row's block is no box -/
theorem row_block {M : Nat} {v : Value} {P : List PkR} (h : pktK.Own W M v P) {g : Nat} (e : v.ownBlock = some g) : ∃ cs, W.heap[g]? = some (.cells cs 29 (0, 0)) ∧ M ≤ g := by
  rcases h.2 with ⟨rfl, _⟩ | ⟨g', cap, cur, rfl, hb, hg', _⟩
  · cases e
  · simp [Value.ownBlock] at e; subst e; exact ⟨_, hg', hb⟩
/-- one more packet -/
theorem app (h : SplitI n₀ w L0 B2 Bs Bn k s t l lv st (.slice oa bn bc) bss W) (hn : n₀ ≤ W.heap.size) (hl : bss.length ≤ 100000) :
    ∃ (v : Value) (gN capN : Nat) (wN : World), W.cell? ⟨L0, 0, none⟩ = some v ∧ (Builtin.append_ #[30, 30] 30 #[v, .slice (some ⟨W.heap.size, 0, none⟩) 1 1]).run Tryd.prog (W.alloc (.cells (PkR.cells ⟨s, t, l, lv, st, oa, bn, bc⟩).toArray 29)) = .ok (.slice (some ⟨gN, 0, none⟩) (bss.length + 1) capN) wN ∧
      wN.cell? ⟨L0, 0, none⟩ = some v ∧ wN.frozen? ⟨L0, 0, none⟩ = false ∧ KeepsOthers W (wN.setCell ⟨L0, 0, none⟩ (.slice (some ⟨gN, 0, none⟩) (bss.length + 1) capN)) ∧ Below n₀ W (wN.setCell ⟨L0, 0, none⟩ (.slice (some ⟨gN, 0, none⟩) (bss.length + 1) capN)) ∧ Mid n₀ w L0 B2 Bs Bn k s t l lv st (.slice oa bn bc) bss gN capN (wN.setCell ⟨L0, 0, none⟩ (.slice (some ⟨gN, 0, none⟩) (bss.length + 1) capN)) := by
  obtain ⟨⟨v, P, h1, h2, h3, h0, h4⟩, h5, h6, h7, h8, h9⟩ := h
  have BA : Below W.heap.size W (W.alloc (.cells (PkR.cells ⟨s, t, l, lv, st, oa, bn, bc⟩).toArray 29)) := (Below.refl _ _).alloc (Nat.le_refl _) _
  obtain ⟨vN, wN, hr, ho, hgr, hbk⟩ := RecK.run_one pktK_ok (W.alloc (.cells (PkR.cells ⟨s, t, l, lv, st, oa, bn, bc⟩).toArray 29)) n₀ v ⟨s, t, l, lv, st, oa, bn, bc⟩ P (h2.below BA) W.heap.size (obj_new _ _) (by omega) (by simp; omega)
  obtain ⟨gN, capN, rfl⟩ := Joins.ownsRow_form ho (by simp)
  have hlen : (P ++ [(⟨s, t, l, lv, st, oa, bn, bc⟩ : PkR)]).length = bss.length + 1 := by simp [h3]
  rw [hlen] at hr ho hbk
  have hrow : ∀ g, v.ownBlock = some g → ∃ cs, W.heap[g]? = some (.cells cs 29 (0, 0)) := fun g e => by obtain ⟨cs, q, _⟩ := row_block h2 e; exact ⟨cs, q⟩
  have other : ∀ (j : Nat) (cs : Array Value) (T : TypeId), T ≠ 29 → W.heap[j]? = some (.cells cs T (0, 0)) → wN.heap[j]? = some (.cells cs T (0, 0)) := fun j cs T hT e => by
    rw [hgr.block j (by have := lt_of_block e; simp; omega) (fun e' => by
      obtain ⟨cs', q⟩ := hrow j e'.symm
      rw [e] at q; simp at q; exact hT q.2)]
    exact (BA.block j (lt_of_block e)).trans e
  have hbox : PkIn wN B2 s t l lv st (.slice oa bn bc) := by
    have e := hgr.block B2 (by have := lt_of_block h5; simp; omega) (fun e' => h0 e'.symm)
    have e2 := BA.block B2 (lt_of_block h5)
    unfold PkIn at *
    rw [e, e2]; exact h5
  have hL : wN.heap[L0]? = some (.cells #[v] 30 (0, 0)) := other _ _ _ (by decide) h1
  have hgL : gN ≠ L0 := fun e => by
    obtain ⟨cs, q, _⟩ := row_block ho (g := gN) rfl
    rw [e, hL] at q; simp at q
  have hgB : gN ≠ B2 := fun e => by
    rcases hbk with q | q
    · rw [← q] at h0; exact h0 (by rw [← e]; rfl)
    · have := lt_of_block h5
      simp [Value.ownBlock] at q; omega
  have hgn : gN ≠ B2 ∧ (v.ownBlock = some gN ∨ W.heap.size ≤ gN) := by
    refine ⟨hgB, ?_⟩
    rcases hbk with q | q
    · exact .inl (by rw [← q]; rfl)
    · simp [Value.ownBlock] at q; exact .inr (by omega)
  have hLB : L0 ≠ B2 := fun e => by
    unfold PkIn at h5
    rw [← e, h1] at h5; simp at h5
  have kbW : Below n₀ W wN := (BA.mono hn).grown hgr (by simp; omega) (fun g e => by obtain ⟨cs, _, q⟩ := row_block h2 e; exact q)
  have kbN : Below n₀ w wN := h6.trans kbW
  have ko : KeepsOthers W wN := by
    refine (KeepsOthers.alloc _ _).trans (KeepsOthers.of_grownBy hgr (fun j o e q => ?_))
    obtain ⟨cs, q'⟩ := hrow j e
    have := BA.block j (lt_of_block q')
    rw [this, q'] at q; cases q; rfl
  have set_ne : ∀ j, j ≠ L0 → (wN.setCell ⟨L0, 0, none⟩ (.slice (some ⟨gN, 0, none⟩) (bss.length + 1) capN)).heap[j]? = wN.heap[j]? := fun j hj => Below.heap_setCell _ _ _ _ hj
  refine ⟨v, gN, capN, wN, obj_cell h1 rfl, hr, obj_cell hL rfl, obj_free hL 0, ko.trans (KeepsOthers.setCell _ _ _), Below.setCell kbW h7.1 _, ⟨⟨P, ⟨s, t, l, lv, st, oa, bn, bc⟩, ?_, h3, ⟨rfl, rfl, rfl, rfl, rfl⟩, hgB, fun i bs hb => ?_⟩, ?_, ?_, ?_, h7, ?_, ?_⟩⟩
  · exact RecK.Own.keep ho (fun g hg _ _ => set_ne g (by simp [Value.ownBlock] at hg; omega))
  · obtain ⟨p, e1, e2, e3, e4, e5, e6, e7, e8⟩ := h4 i bs hb
    refine ⟨p, e1, e2, e3, e4, e5, e6, ?_, fun a ha hne => ?_⟩
    · refine bytes_keep (P := fun j => j < W.heap.size ∧ j ≠ L0 ∧ v.ownBlock ≠ some j) e7 (fun a ha hne => (e8 a ha hne).2) (fun j ⟨q1, q2, q3⟩ => ?_)
      rw [set_ne j q2, hgr.block j (by simp; omega) (fun e => q3 e.symm)]
      exact BA.block j q1
    · obtain ⟨q1, q2, q3, q4⟩ := e8 a ha hne
      refine ⟨q1, ?_, q3, fun e => ?_⟩
      · have := ko.size; simp; omega
      · rcases hgn.2 with q | q
        · exact q4 (by rw [q, e])
        · omega
  · exact obj_set hL 0 _
  · unfold PkIn at *; rw [set_ne B2 (Ne.symm hLB)]; exact hbox
  · exact Below.setCell kbN h7.1 _
  · rw [set_ne Bs (fun e => by rw [e, h1] at h8; simp at h8)]; exact other _ _ _ (by decide) h8
  · rw [set_ne Bn (fun e => by rw [e, h1] at h9; simp at h9)]; exact other _ _ _ (by decide) h9
theorem Mid.cells {gN capN : Nat} (h : Mid n₀ w L0 B2 Bs Bn k s t l lv st bv bss gN capN W) : W.cell? ⟨L0, 0, none⟩ = some (.slice (some ⟨gN, 0, none⟩) (bss.length + 1) capN) ∧ (∃ u, W.cell? ⟨gN, bss.length * 6 + 5, none⟩ = some u) ∧ W.frozen? ⟨gN, bss.length * 6 + 5, none⟩ = false := by
  obtain ⟨P, p0, h1, h2, _⟩ := h.ex
  have hc := h1.cells (g := gN) rfl (bss.length * 6 + 5) (.slice p0.oa p0.bn p0.bc) (by
    have := RecK.all_at pktK pktK_ok (P ++ [p0]) bss.length p0 (by rw [← h2]; simp) 5 (by decide)
    show (pktK.all (P ++ [p0]))[bss.length * 6 + 5]? = _
    rw [show bss.length * 6 + 5 = bss.length * pktK.n + 5 from rfl, this]; rfl)
  rw [Addr.add_lit, Nat.zero_add] at hc
  have h1' : W.ownsRow n₀ 29 6 (.slice (some ⟨gN, 0, none⟩) (bss.length + 1) capN) (bss.length + 1) (pktK.all (P ++ [p0])) := by
    have := h1
    unfold RecK.Own at this
    rw [show (P ++ [p0]).length = bss.length + 1 by simp [h2]] at this; exact this
  exact ⟨obj_cell h.cell rfl, ⟨_, hc⟩, h1'.frozenAt (bss.length * 6 + 5)⟩
/-- the clone is stored -/
theorem Mid.fin {gN capN S : Nat} (h : Mid n₀ w L0 B2 Bs Bn k s t l lv st bv bss gN capN W) {oa' : Option Addr} {n' c' : Nat} {bs : List UInt8} (hS : L0 < S ∧ gN < S ∧ n₀ ≤ S) (hcl : ∀ V, Keeps (fun k => k < S) W V → Sl encB V (.slice oa' n' c') bs) : KeepsOthers W (W.setCell ⟨gN, bss.length * 6 + 5, none⟩ (.slice oa' n' c')) ∧ SplitI n₀ w L0 B2 Bs Bn k s t l lv st bv (bss ++ [bs]) (W.setCell ⟨gN, bss.length * 6 + 5, none⟩ (.slice oa' n' c')) := by
  obtain ⟨⟨P, p0, h1, h2, ⟨e1, e2, e3, e4, e5⟩, h0, h4⟩, h5, h6, h7, h8, h9, h10⟩ := h
  have fix := bytes_fix hcl
  obtain ⟨cg, hcg, hgn⟩ := row_block h1 (g := gN) rfl
  have hgL : gN ≠ L0 := fun e => by rw [e, h5] at hcg; simp at hcg
  have set_ne : ∀ j, j ≠ gN → (W.setCell ⟨gN, bss.length * 6 + 5, none⟩ (.slice oa' n' c')).heap[j]? = W.heap[j]? := fun j hj => Below.heap_setCell _ _ _ _ hj
  have hlen : (P ++ [p0]).length = bss.length + 1 := by simp [h2]
  have h1' : W.ownsRow n₀ 29 6 (.slice (some ⟨gN, 0, none⟩) (bss.length + 1) capN) (bss.length + 1) (pktK.all (P ++ [p0])) := by
    have := h1
    unfold RecK.Own at this
    rw [hlen] at this; exact this
  obtain ⟨st1, _⟩ := h1'.stored (bss.length * 6 + 5) (.slice oa' n' c')
  obtain ⟨p1, hp1⟩ : ∃ p1 : PkR, p1 = ⟨s, t, l, lv, st, oa', n', c'⟩ := ⟨_, rfl⟩
  have hset : (pktK.all (P ++ [p0])).set (bss.length * 6 + 5) (.slice oa' n' c') = pktK.all (P ++ [p1]) := by
    have := RecK.set_at pktK pktK_ok (P ++ [p0]) bss.length (by rw [hlen]; omega) 5 (by decide) (.slice oa' n' c') p1 (by
      rw [List.getElem_append_right (by omega)]
      simp [h2, pktK, PkR.cells, hp1, e1, e2, e3, e4, e5])
    rw [show bss.length * 6 + 5 = bss.length * pktK.n + 5 from rfl, this]
    congr 1
    rw [← h2, List.set_append_right _ _ (Nat.le_refl _)]; simp
  rw [hset] at st1
  refine ⟨KeepsOthers.setCell _ _ _, ⟨⟨.slice (some ⟨gN, 0, none⟩) (bss.length + 1) capN, P ++ [p1], ?_, ?_, by simp [h2], fun e => h0 (by simpa [Value.ownBlock] using e), fun i b hb => ?_⟩, ?_, Below.setCell h7 hgn _, h8, ?_, ?_⟩⟩
  · rw [set_ne L0 (Ne.symm hgL)]; exact h5
  · unfold RecK.Own
    rw [show (P ++ [p1]).length = bss.length + 1 by simp [h2]]
    exact st1
  · by_cases hi : i < bss.length
    · rw [List.getElem?_append_left hi] at hb
      obtain ⟨p, d1, d2, d3, d4, d5, d6, d7, d8⟩ := h4 i b hb
      refine ⟨p, by rw [List.getElem?_append_left (by omega)]; exact d1, d2, d3, d4, d5, d6, ?_, fun a ha hne => ?_⟩
      · exact bytes_keep (P := fun j => j ≠ gN) d7 (fun a ha hne => (d8 a ha hne).2.2.2) (fun j hj => set_ne j hj)
      · obtain ⟨q1, q2, q3, q4⟩ := d8 a ha hne
        exact ⟨q1, by simpa using q2, q3, fun e => q4 (by simpa [Value.ownBlock] using e.symm)⟩
    · rw [List.getElem?_append_right (by omega)] at hb
      have hi0 : i = bss.length := by
        rcases Nat.eq_zero_or_pos (i - bss.length) with q | q
        · omega
        · rw [List.getElem?_eq_none (by simp; omega)] at hb; cases hb
      subst hi0
      simp at hb
      subst hb
      refine ⟨p1, by rw [← h2]; simp, by rw [hp1], by rw [hp1], by rw [hp1], by rw [hp1], by rw [hp1], ?_, fun a ha hne => ?_⟩
      · rw [hp1]
        exact hcl _ ⟨rfl, rfl, rfl, by simp, fun j hj hn => set_ne j (fun e => hn (by omega))⟩
      · rw [hp1] at ha
        obtain ⟨q1, q2⟩ := fix.2 a ha hne
        exact ⟨by omega, by simpa using q2, by omega, by simp [Value.ownBlock]; omega⟩
  · unfold PkIn at *; rw [set_ne B2 (Ne.symm h0)]; exact h6
  · rw [set_ne Bs (fun e => by rw [e, hcg] at h9; simp at h9)]; exact h9
  · rw [set_ne Bn (fun e => by rw [e, hcg] at h10; simp at h10)]; exact h10
end SplitI
end Go.Proofs.YtggfhcidmnageaaDoor
