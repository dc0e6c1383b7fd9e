import Derived.Test.YtmlpdcbfafplkaaDoorWin
import Derived.Test.YtmlpdcbfafplkaaDoorSlRows
import Derived.Test.YtmlpdcbfafplkaaDoorRefSerial
import Derived.Lib.AppendZeros
import Derived.Laws.AppendOwn
import Derived.Lib.LazyBuf
/-! Contracts of the reference's window. -/
namespace Go.Proofs.YtmlpdcbfafplkaaDoor
open Go.RowKit
set_option linter.unusedVariables false
set_option linter.unusedSimpArgs false

/-- the reference's window in memory -/
def RWinAt (w : World) (b : Nat) (n top : Int) (vL : Value) : Prop := w.heap[b]? = some (.cells #[.int .i64 n, .int .i64 top, vL] 31 (0, 0))
/-- .. with its list -/
structure RW (M : Nat) (w : World) (b : Nat) (n top : Int) (vL : Value) (L : List Int) : Prop where
  at_ : RWinAt w b n top vL
  row : w.ownsRow M 3 1 vL L.length (L.map encI)
/-- blocks of type T are as they were -/
def TK (T : TypeId) (w w' : World) : Prop := ∀ (g : Nat) (o : Array Value), w.heap[g]? = some (.cells o T (0, 0)) → w'.heap[g]? = w.heap[g]?
theorem TK.refl (T : TypeId) (w : World) : TK T w w := fun _ _ _ => rfl
theorem TK.trans {T : TypeId} {a b c : World} (h : TK T a b) (k : TK T b c) : TK T a c := fun g o ho => by
  have e := h g o ho
  rw [← e]
  exact k g o (by rw [e]; exact ho)
theorem TK.below {T : TypeId} {w w' : World} (h : Below w.heap.size w w') : TK T w w' := fun g o ho => h.block g (lt_of_block ho)
theorem TK.of_set {T U : TypeId} {w : World} {b k : Nat} {cs : Array Value} {v : Value} (hb : w.heap[b]? = some (.cells cs U (0, 0))) (hT : T ≠ U) : TK T w (w.setCell ⟨b, k, none⟩ v) := by
  intro g o ho
  refine Below.heap_setCell _ _ _ _ ?_
  rintro rfl
  rw [ho] at hb
  simp at hb
  exact hT hb.2
theorem TK.grown {T : TypeId} {w w' : World} {M n : Nat} {v : Value} {xs : List Value} (h : w.grownBy w' v.ownBlock) (hr : w.ownsRow M 3 1 v n xs) (hT : T ≠ 3) : TK T w w' := by
  intro g o ho
  refine h.block g (lt_of_block ho) ?_
  intro e
  obtain ⟨_, h2⟩ := hr
  rcases h2 with ⟨rfl, _⟩ | ⟨g', cap, cur, rfl, hb, hg, hc, hm, hs, ht⟩
  · simp [Value.ownBlock] at e
  · simp [Value.ownBlock] at e
    subst e
    rw [ho] at hg
    simp at hg
    exact hT hg.2
theorem row_tk {w w' : World} {M n : Nat} {v : Value} {xs : List Value} (h : w.ownsRow M 3 1 v n xs) (hk : TK 3 w w') : w'.ownsRow M 3 1 v n xs := by
  obtain ⟨h1, h2⟩ := h
  refine ⟨h1, ?_⟩
  rcases h2 with h2 | ⟨g, cap, cur, rfl, hb, hg, hc, hm, hs, ht⟩
  · exact .inl h2
  · exact .inr ⟨g, cap, cur, rfl, hb, by rw [hk g _ hg]; exact hg, hc, hm, hs, ht⟩
theorem row_sl {w : World} {M : Nat} {v : Value} {L : List Int} (h : w.ownsRow M 3 1 v L.length (L.map encI)) : Sl encI w v L := by
  obtain ⟨h1, h2⟩ := h
  rcases h2 with ⟨rfl, h0⟩ | ⟨g, cap, cur, rfl, _, hg, hc, hm, hs, ht⟩
  · have : L = [] := List.eq_nil_of_length_eq_zero h0
    subst this
    exact Sl.nil _
  · refine .inr ⟨g, 0, cap, rfl, hc, hm, fun i hi => ?_⟩
    have e : cur[i]? = some (encI L[i]) := by
      have h3 : (cur.toList.take (L.length * 1))[i]? = (L.map encI)[i]? := by rw [ht]
      rw [List.getElem?_take, if_pos (by omega)] at h3
      simpa [hi] using h3
    rw [Nat.zero_add]
    exact obj_cell hg e
theorem RW.below {M : Nat} {w w' : World} {b : Nat} {n top : Int} {vL : Value} {L : List Int} (h : RW M w b n top vL L) (k : Below w.heap.size w w') : RW M w' b n top vL L :=
  ⟨Below.heapAt k h.at_ (lt_of_block h.at_), row_tk h.row (TK.below k)⟩
/-- only reads between -/
def Drawn (w w' : World) : Prop := ∃ m, w' = w.drewN m
theorem Drawn.more {w a : World} (h : Drawn w a) (k : Nat) : Drawn w (a.drewN k) := by
  obtain ⟨m, rfl⟩ := h
  exact ⟨m + k, by simp⟩
theorem Drawn.below {w w' : World} (h : Drawn w w') : Below w.heap.size w w' := by
  obtain ⟨m, rfl⟩ := h; exact Below.drewN (Below.refl _ _) _

set_option maxRecDepth 100000 in
set_option maxHeartbeats 2000000 in
theorem rHas_any (M : Nat) (b : Nat) (n top : Int) (vL : Value) (L : List Int) (num : Int) (n1 : 1 ≤ n) (n2 : n ≤ 64) (t1 : -1 ≤ top) (t2 : top ≤ 1099511627776) (w : World) (hg : RW M w b n top vL L) :
    Calls Tryd.prog 11 #[.pointer (some ⟨b, 0, none⟩), .int .i64 num] w fun e w' => e = .returned (.bool (decide (num ∈ L ∧ top - n < num))) ∧ ∃ m, w' = w.drewN m := by
  have hs := row_sl hg.row
  have hm := hs.len
  unfold maxLen at hm
  obtain ⟨gb, go, gc, goa, rfl, g1, g2⟩ := hs.shape
  have G1 := Lib.hid g1
  have G2 := Lib.hid g2
  have RWH := Lib.hid hg
  have k2 := obj_cell hg.at_ (k := 2) rfl
  clear g1 g2 hs hg
  go_enter Tryd.func11, Tryd.ntmps11
  go_wp2_with fail
  go_loopw [5] (fun i wr => ∃ k : Nat, k ≤ L.length ∧ i = .int .i64 k ∧ Drawn w wr ∧ RWinAt wr b n top (.slice goa L.length gc) ∧ Hid (∀ j, (h : j < L.length) → j < k → ¬ (L[j] = num ∧ top - n < num))) (fun i _ => L.length - (intOf i).toNat)
  case atStart => exact ⟨0, by omega, rfl, ⟨0, rfl⟩, RWH.out.at_, Lib.hid (fun j _ hj => by omega)⟩
  case round =>
    clear k2
    obtain ⟨k, hk, rfl, hd, hg, hno⟩ := hrel
    have k0 := obj_cell hg (k := 0) rfl
    have k1 := obj_cell hg (k := 1) rfl
    have k2 := obj_cell hg (k := 2) rfl
    by_cases hlt : k < L.length
    · have hgo := G1.out (by intro e; rw [e] at hlt; simp at hlt)
      subst hgo
      have q : wr.cell? ⟨gb, go + k, none⟩ = some (.int .i64 L[k]) := by
        obtain ⟨m, rfl⟩ := hd
        exact G2.out k hlt
      have HX := Lib.hid (show L[k] = L[k] from rfl)
      obtain ⟨x, hx⟩ : ∃ x, x = L[k] := ⟨_, rfl⟩
      have HXX := Lib.hid hx
      rw [← hx] at q
      clear hx HX
      have fin : (L[k] = num ∧ top - n < num) → decide (num ∈ L ∧ top - n < num) = true := fun h => by
        simp only [decide_eq_true_eq]
        exact ⟨by rw [← h.1]; exact List.getElem_mem _, h.2⟩
      have Fin := Lib.hid fin
      have nxt : ¬ (L[k] = num ∧ top - n < num) → Hid (∀ j, (h : j < L.length) → j < k + 1 → ¬ (L[j] = num ∧ top - n < num)) := fun h => Lib.hid (fun j hj hjk => by
        by_cases e : j = k
        · subst e; exact h
        · exact hno.out j hj (by omega))
      have Nxt := Lib.hid nxt
      clear fin nxt
      have HD := Lib.hid hd
      clear hd
      cases e1 : (x == num)
      · have hne : ¬ (L[k] = num ∧ top - n < num) := by rw [← HXX.out]; intro h; simp [h.1] at e1
        have NN := Nxt.out hne
        clear hne
        go_wp2_with fail
        go_quiet (fail)
        go_wp2
        go_roundw
        case measure => simp [intOf]; omega
        case rel => exact ⟨k + 1, by omega, by go_num, HD.out.more _, hg, NN⟩
      · have e1' : x = num := by simpa using e1
        cases e2 : decide (top - n < num)
        · have hne : ¬ (L[k] = num ∧ top - n < num) := by intro h; simp [h.2] at e2
          have NN := Nxt.out hne
          clear hne e1'
          go_wp2_with fail
          go_quiet (fail)
          go_wp2
          go_roundw
          case measure => simp [intOf]; omega
          case rel => exact ⟨k + 1, by omega, by go_num, HD.out.more _, hg, NN⟩
        · have FF := Lib.hid (Fin.out ⟨by rw [← HXX.out]; exact e1', by simpa using e2⟩)
          clear e1'
          go_wp2_with fail
          go_quiet (fail)
          go_wp2
          go_ret
          exact ⟨by rw [FF.out]; rfl, HD.out.more _⟩
    · have hkk : k = L.length := by omega
      have FF : decide (num ∈ L ∧ top - n < num) = false := by
        simp only [decide_eq_false_iff_not]
        rintro ⟨h1, h2⟩
        obtain ⟨j, hj, rfl⟩ := List.getElem_of_mem h1
        exact hno.out j hj (by omega) ⟨rfl, h2⟩
      have FFH := Lib.hid FF
      have HD := Lib.hid hd
      clear FF hd
      go_wp2
      go_ret
      exact ⟨by rw [FFH.out]; rfl, HD.out⟩
end Go.Proofs.YtmlpdcbfafplkaaDoor
