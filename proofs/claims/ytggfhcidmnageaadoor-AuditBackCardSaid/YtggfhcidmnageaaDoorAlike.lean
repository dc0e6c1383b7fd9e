import Derived.Test.YtggfhcidmnageaaDoorEqual
import Derived.Test.YtggfhcidmnageaaDoorFirst
import Derived.Test.YtggfhcidmnageaaDoorPkIn
import Derived.Test.YtggfhcidmnageaaDoorPAudit
import Derived.Deep.DeepCutAuto
/-! audit.alike, the closure of places, slices.IndexFunc at packets. -/
namespace Go.Proofs.YtggfhcidmnageaaDoor
open Go.RowKit
set_option linter.unusedVariables false
set_option linter.unusedSimpArgs false
def Pl.alk (l lv : Int) (st : Bool) (b : List UInt8) (l' lv' : Int) (st' : Bool) (b' : List UInt8) : Bool := decide (l = l' ∧ lv = lv' ∧ st = st' ∧ b = b')
set_option maxRecDepth 100000 in
set_option maxHeartbeats 2000000 in
theorem alike_any (s t l lv s' t' l' lv' : Int) (st st' : Bool) (v v' : Value) (b b' : List UInt8) (w : World) (h : IsBytes w v b) (h' : IsBytes w v' b') :
    Calls Tryd.prog 26 #[pkV s t l lv st v, pkV s' t' l' lv' st' v'] w fun e w' => e = .returned (.bool (Pl.alk l lv st b l' lv' st' b')) ∧ Below w.heap.size w w' := by
  have EQ := Lib.hid (fun y (k : Below w.heap.size w y) => equal_any v v' b b' y (h.below k) (h'.below k))
  obtain ⟨oa, c, rfl, _⟩ := bytes_slice h
  obtain ⟨oa', c', rfl, _⟩ := bytes_slice h'
  have fin : ∀ r : Bool, r = Pl.alk l lv st b l' lv' st' b' → Ending.returned (.bool r) = .returned (.bool (Pl.alk l lv st b l' lv' st' b')) := fun r h => by rw [h]
  have Fin := Lib.hid fin
  have KB := Lib.hid (((Below.refl w.heap.size w).alloc (Nat.le_refl _) (.cells #[.int .i64 s, .int .i64 t, .int .i64 l, .int .i64 lv, .bool st, .slice oa b.length c] 29)).alloc (by simp) (.cells #[.int .i64 s', .int .i64 t', .int .i64 l', .int .i64 lv', .bool st', .slice oa' b'.length c'] 29))
  clear fin h h'
  by_cases el : l = l'
  case neg =>
    have d : (l == l') = false := by simpa using el
    go_enter Tryd.func26, Tryd.ntmps26
    go_wp2_with fail
    go_ret
    exact ⟨Fin.out _ (by simp [Pl.alk, *]), KB.out⟩
  subst el
  by_cases elv : lv = lv'
  case neg =>
    have d : (lv == lv') = false := by simpa using elv
    go_enter Tryd.func26, Tryd.ntmps26
    go_wp2_with fail
    go_ret
    exact ⟨Fin.out _ (by simp [Pl.alk, *]), KB.out⟩
  subst elv
  by_cases est : st = st'
  case neg =>
    have d : (st == st') = false := by simpa using est
    go_enter Tryd.func26, Tryd.ntmps26
    go_wp2_with fail
    go_ret
    exact ⟨Fin.out _ (by simp [Pl.alk, *]), KB.out⟩
  subst est
  go_enter Tryd.func26, Tryd.ntmps26
  go_wp2_with (go_at_call 28; (with_reducible refine (EQ.out _ KB.out).mono ?_); rintro e w2 ⟨rfl, k⟩; have K := Lib.hid (KB.out.trans (k.mono (by simp; omega))); clear k)
  go_ret
  exact ⟨Fin.out _ (by simp [Pl.alk]), K.out⟩
theorem PkIn.cells {w : World} {g : Nat} {s t l lv : Int} {st : Bool} {bv : Value} (h : PkIn w g s t l lv st bv) : w.cell? ⟨g, 0, none⟩ = some (.int .i64 s) ∧ w.cell? ⟨g, 1, none⟩ = some (.int .i64 t) ∧ w.cell? ⟨g, 2, none⟩ = some (.int .i64 l) ∧ w.cell? ⟨g, 3, none⟩ = some (.int .i64 lv) ∧ w.cell? ⟨g, 4, none⟩ = some (.bool st) ∧ w.cell? ⟨g, 5, none⟩ = some bv :=
  ⟨obj_cell h rfl, obj_cell h rfl, obj_cell h rfl, obj_cell h rfl, obj_cell h rfl, obj_cell h rfl⟩
set_option maxRecDepth 100000 in
set_option maxHeartbeats 2000000 in
theorem places1_any (s t l lv s' t' l' lv' : Int) (st st' : Bool) (v v' : Value) (b b' : List UInt8) (B : Nat) (w : World) (h : PkIn w B s t l lv st v) (hb : IsBytes w v b) (hb' : IsBytes w v' b') :
    Calls Tryd.prog 25 #[pkV s' t' l' lv' st' v', .pointer (some ⟨B, 0, none⟩)] w fun e w' => e = .returned (.bool (Pl.alk l' lv' st' b' l lv st b)) ∧ Below w.heap.size w w' := by
  have S := Lib.hid (fun y (k : Below w.heap.size w y) => alike_any s' t' l' lv' s t l lv st' st v' v b' b y (hb'.below k) (hb.below k))
  have h2 := obj_old h (.cells #[.int .i64 s', .int .i64 t', .int .i64 l', .int .i64 lv', .bool st', v'] 29)
  obtain ⟨q0, q1, q2, q3, q4, q5⟩ := PkIn.cells h2
  have K0 := Lib.hid ((Below.refl w.heap.size w).alloc (Nat.le_refl _) (.cells #[.int .i64 s', .int .i64 t', .int .i64 l', .int .i64 lv', .bool st', v'] 29))
  clear h h2 hb hb'
  go_enter Tryd.func25, Tryd.ntmps25
  go_wp2_with (go_at_call 26; (with_reducible refine (S.out _ K0.out).mono ?_); rintro e w2 ⟨rfl, k⟩; have K := Lib.hid (K0.out.trans (k.mono (by simp))); clear k)
  go_ret
  exact ⟨rfl, K.out⟩
/-- packets: the value, and the cells of each -/
theorem pks_open {w : World} {v : Value} {l : List Pk} (h : IsPks w v l) : ∃ (oa : Option Addr) (c : Nat), v = .slice oa l.length c ∧ l.length ≤ c ∧ c ≤ maxLen ∧ (oa = none → c = 0) ∧ ∀ k (hk : k < l.length), ∃ b f, oa = some ⟨b, f, none⟩ ∧ b < w.heap.size ∧
    w.cell? ⟨b, f + k * 6, none⟩ = some (.int .i64 l[k].s) ∧ w.cell? ⟨b, f + k * 6 + 1, none⟩ = some (.int .i64 l[k].t) ∧ w.cell? ⟨b, f + k * 6 + 2, none⟩ = some (.int .i64 l[k].l) ∧ w.cell? ⟨b, f + k * 6 + 3, none⟩ = some (.int .i64 l[k].lv) ∧ w.cell? ⟨b, f + k * 6 + 4, none⟩ = some (.bool l[k].st) ∧ w.cell? ⟨b, f + k * 6 + 5, none⟩ = some l[k].bv ∧ l[k].Good w := by
  obtain ⟨h1, h2⟩ := h
  rcases h1 with ⟨rfl, oa, cap, rfl, r1, r4⟩ | ⟨b2, f2, c2, rfl, r1, r2, r3⟩
  · exact ⟨oa, cap, rfl, by simp, r1, r4, fun k hk => by simp at hk⟩
  · refine ⟨_, c2, rfl, r1, r2, (fun e => by cases e), fun k hk => ?_⟩
    have q0 := r3 k hk 0 _ rfl
    have q1 := r3 k hk 1 _ rfl
    have q2 := r3 k hk 2 _ rfl
    have q3 := r3 k hk 3 _ rfl
    have q4 := r3 k hk 4 _ rfl
    have q5 := r3 k hk 5 _ rfl
    exact ⟨b2, f2, rfl, Sl.lt q0, q0, q1, q2, q3, q4, q5, h2 _ (List.getElem_mem hk)⟩
theorem IsPks.below {w w' : World} {v : Value} {l : List Pk} (h : IsPks w v l) (k : Below w.heap.size w w') : IsPks w' v l := ⟨h.1.below k, fun p hp => (h.2 p hp).below k⟩
/-- those from k on -/
theorem IsPks.drop {w : World} {oa : Option Addr} {n c : Nat} {l : List Pk} (h : IsPks w (.slice oa n c) l) (k : Nat) (hk : k ≤ l.length) (oa' : Option Addr) (h1 : ∀ b f, oa = some ⟨b, f, none⟩ → k < c → oa' = some ⟨b, f + k * 6, none⟩) (h2 : oa' = none → oa = none) : IsPks w (.slice oa' (l.length - k) (c - k)) (l.drop k) := by
  obtain ⟨q, g⟩ := h
  refine ⟨?_, fun p hp => g p (List.mem_of_mem_drop hp)⟩
  have hlen : (l.drop k).length = l.length - k := by simp
  rcases q with ⟨rfl, oa2, cap, e, r1, r4⟩ | ⟨b2, f2, c2, e, r1, r2, r3⟩
  · cases e
    have : k = 0 := by simpa using hk
    subst this
    exact .inl ⟨rfl, oa', c, rfl, r1, fun e => r4 (h2 e)⟩
  · cases e
    by_cases hlt : k < l.length
    · refine .inr ⟨b2, f2 + k * 6, c - k, by rw [hlen, h1 _ _ rfl (by omega)], by omega, by omega, fun i hi j u hu => ?_⟩
      rw [hlen] at hi
      have := r3 (k + i) (by omega) j u (by simpa using hu)
      rw [show f2 + k * 6 + (i * 6 + j) = f2 + ((k + i) * 6 + j) by omega]
      exact this
    · refine .inl ⟨List.drop_eq_nil_of_le (by omega), oa', c - k, by rw [show l.length - k = 0 by omega], by omega, fun e => by cases h2 e⟩
set_option maxRecDepth 100000 in
set_option maxHeartbeats 2000000 in
theorem pkindex_any (g : Pk) (B : Nat) (v : Value) (L : List Pk) (w : World) (h : PkIn w B g.s g.t g.l g.lv g.st g.bv) (hg : IsBytes w g.bv g.body) (hL0 : IsPks w v L) :
    Calls Tryd.prog 24 #[v, .func (.func 25) #[] #[.pointer (some ⟨B, 0, none⟩)]] w fun e w' => ∃ k : Int, e = .returned (.int .i64 k) ∧ FirstIx (fun x => Pl.alikeP x g) L k ∧ Below w.heap.size w w' := by
  obtain ⟨oa, cp, rfl, hlc, hcm, -, -⟩ := pks_open hL0
  have hL : IsPks w (.slice oa L.length cp) L := hL0
  unfold maxLen at hcm
  have HL := Lib.hid hL
  have HB := Lib.hid h
  have HG := Lib.hid hg
  clear h hL hL0 hg
  go_enter Tryd.func24, Tryd.ntmps24
  go_upto_region 2 with fail
  go_loopw [8] (fun s8 wr => ∃ i : Nat, i ≤ L.length ∧ s8 = .int .i64 i ∧ Hid (∀ j (hj : j < L.length), j < i → Pl.alikeP L[j] g = false) ∧ Hid (Below w.heap.size w wr)) (fun s8 _ => L.length - (intOf s8).toNat)
  case atStart => exact ⟨0, by omega, rfl, Lib.hid (fun j _ h => by omega), Lib.hid (Below.refl _ _)⟩
  case round =>
    obtain ⟨i, hi, rfl, HN, KB⟩ := hrel
    by_cases hlt : i < L.length
    · obtain ⟨_, _, e, -, -, -, rd⟩ := pks_open (HL.out.below KB.out)
      cases e
      obtain ⟨b, f, rfl, hb, q0, q1, q2, q3, q4, q5, gd⟩ := rd i hlt
      have CK := Lib.hid (places1_any g.s g.t g.l g.lv L[i].s L[i].t L[i].l L[i].lv g.st L[i].st g.bv L[i].bv g.body L[i].body B wr (Below.heapAt KB.out HB.out (lt_of_block HB.out)) (HG.out.below KB.out) gd.2.2.2.2)
      have HX := Lib.hid (show ∀ (r : Bool), Pl.alk L[i].l L[i].lv L[i].st L[i].body g.l g.lv g.st g.body = r → Pl.alikeP L[i] g = r from fun r h => h)
      clear rd gd
      obtain ⟨r, hr⟩ : ∃ r, Pl.alk L[i].l L[i].lv L[i].st L[i].body g.l g.lv g.st g.body = r := ⟨_, rfl⟩
      have HR := Lib.hid (HX.out r hr)
      rw [hr] at CK
      obtain ⟨x0, hx0⟩ : ∃ x, L[i].s = x := ⟨_, rfl⟩
      obtain ⟨x1, hx1⟩ : ∃ x, L[i].t = x := ⟨_, rfl⟩
      obtain ⟨x2, hx2⟩ : ∃ x, L[i].l = x := ⟨_, rfl⟩
      obtain ⟨x3, hx3⟩ : ∃ x, L[i].lv = x := ⟨_, rfl⟩
      obtain ⟨x4, hx4⟩ : ∃ x, L[i].st = x := ⟨_, rfl⟩
      obtain ⟨x5, hx5⟩ : ∃ x, L[i].bv = x := ⟨_, rfl⟩
      rw [hx0] at q0
      rw [hx1] at q1
      rw [hx2] at q2
      rw [hx3] at q3
      rw [hx4] at q4
      rw [hx5] at q5
      rw [hx0, hx1, hx2, hx3, hx4, hx5] at CK
      clear hx0 hx1 hx2 hx3 hx4 hx5 hr HX
      go_upto_region 4 with fail
      cases r
      · go_wp2_with (go_at_call 25; (with_reducible refine CK.out.mono ?_); rintro e w2 ⟨rfl, k⟩; have K := Lib.hid (KB.out.trans (k.mono KB.out.size)); clear k)
        go_roundw
        case measure => simp [intOf]; omega
        case rel => exact ⟨i + 1, by omega, by go_num, Lib.hid (fun j hj hji => by
          by_cases e : j = i
          · subst e; exact HR.out
          · exact HN.out j hj (by omega)), K⟩
      · go_wp2_with (go_at_call 25; (with_reducible refine CK.out.mono ?_); rintro e w2 ⟨rfl, k⟩; have K := Lib.hid (KB.out.trans (k.mono KB.out.size)); clear k)
        go_ret
        exact ⟨_, rfl, .inr ⟨i, hlt, rfl, HR.out, fun j hj => HN.out j (by omega) hj⟩, K.out⟩
    · go_wp2_with fail
      go_ret
      exact ⟨_, rfl, .inl ⟨rfl, fun x hx => by
        obtain ⟨j, hj, rfl⟩ := List.getElem_of_mem hx
        exact HN.out j hj (by omega)⟩, KB.out⟩
end Go.Proofs.YtggfhcidmnageaaDoor
