import Derived.Test.YticihmkgdabgiaaDoorEqual
import Derived.Test.YticihmkgdabgiaaDoorSeal
/-! crc.Open. -/
namespace Go.Proofs.YticihmkgdabgiaaDoor
open Go.RowKit
set_option linter.unusedVariables false
set_option linter.unusedSimpArgs false
namespace Pl
def opened (l : List UInt8) : List UInt8 := l.take (l.length - 4)
def openFault (l : List UInt8) : Int := if l.length < 4 then 8 else if sealB (opened l) = l then 0 else 9
theorem open_seal (l : List UInt8) : opened (sealB l) = l := by unfold opened; rw [sealB_length]; exact sealB_take l _ (by omega)
theorem open_seal_ok (l : List UInt8) : openFault (sealB l) = 0 := by
  unfold openFault
  rw [open_seal, if_neg (by rw [sealB_length]; omega), if_pos rfl]
theorem open_told (b y : List UInt8) (i : Nat) (hl : y.length = b.length + 4) (hi : i < b.length + 4) (hne : y ≠ sealB b) (h : ∀ j, j ≠ i → j ≠ i + 1 → y[j]? = (sealB b)[j]?) : openFault y = 9 := by
  have h1 := sealed_told b y i hl hi hne h
  unfold openFault opened
  rw [if_neg (by omega), show y.length - 4 = b.length by omega, if_neg h1]
end Pl
set_option maxRecDepth 100000 in
set_option maxHeartbeats 2000000 in
theorem copen_short (v : Value) (l : List UInt8) (w : World) (hv : IsBytes w v l) (h : l.length < 4) :
    Calls Tryd.prog 36 #[v] w fun e w' => e = .returned (.tuple #[.slice none 0 0, .iface 73 (.int .i64 8)]) ∧ Below w.heap.size w w' := by
  obtain ⟨oa, c, rfl, _⟩ := bytes_slice hv
  go_enter Tryd.func36, Tryd.ntmps36
  go_wp2
  refine bodyPost_ret (v := .tuple #[.slice none 0 0, .iface 73 (.int .i64 8)]) (by simp [results, Tryd.results36, go_sem]) rfl ?_
  exact ⟨rfl, Below.refl _ _⟩
set_option maxRecDepth 100000 in
set_option maxHeartbeats 2000000 in
theorem copen_long (b off n cap : Nat) (l : List UInt8) (hn : l.length = n + 4) (hc : n + 4 ≤ cap) (hm : cap ≤ maxLen) (hb : l.length ≤ 100000000) (w : World) (hv : IsBytes w (.slice (some ⟨b, off, none⟩) (n + 4) cap) l) :
    Calls Tryd.prog 36 #[.slice (some ⟨b, off, none⟩) (n + 4) cap] w fun e w' => (Pl.sealB (l.take n) = l → ∃ oa c, e = .returned (.tuple #[.slice oa n c, .nilIface]) ∧ OwnB w' w.heap.size (.slice oa n c) (l.take n)) ∧ (Pl.sealB (l.take n) ≠ l → e = .returned (.tuple #[.slice none 0 0, .iface 73 (.int .i64 9)])) ∧ Below w.heap.size w w' := by
  have hlt : (l.take n).length = n := by simp; omega
  have HV := Lib.hid hv
  have HT := Lib.hid (show ∀ y, Below w.heap.size w y → IsBytes y (.slice (some ⟨b, off, none⟩) n cap) (l.take n) from fun y k => Sl.take (fun i hi => by rw [k.cell (Sl.lt (bytes_at hv i hi)), bytes_at hv i hi]; simp [List.getD, hi]) (by omega) (by omega) hm)
  have HLT := Lib.hid hlt
  have HB := Lib.hid hb
  clear hv hlt hb hn
  unfold maxLen at hm
  go_enter Tryd.func36, Tryd.ntmps36
  have S := Lib.hid (seal_any _ _ w (HT.out w (Below.refl _ _)) (by have := HLT.out; have := HB.out; simp; omega))
  by_cases e : Pl.sealB (l.take n) = l
  · go_wp2_with (first
      | (go_at_call 34; refine S.out.mono ?_; rintro e w1 ⟨v1, rfl, o1, k1⟩; have O1 := Lib.hid o1.reads; have K1 := Lib.hid k1; clear o1 k1)
      | (go_at_call 53; refine (equal_any v1 _ _ l w1 O1.out (HV.out.below K1.out)).mono ?_; rintro e2 w2 ⟨he, k2⟩; rw [decide_eq_true e] at he; subst he; have K2 := Lib.hid (K1.out.trans (k2.mono K1.out.size)); clear k2)
      | (go_at_call 47; refine (clone_own _ (l.take n) w2 (HT.out w2 K2.out) (by have := HLT.out; have := HB.out; simp; omega)).mono ?_; rintro e3 w3 ⟨v3, rfl, o3, k3⟩)
      | fail)
    obtain ⟨oa, c, rfl, _⟩ := bytes_slice o3.reads
    have q := o3.mono K2.out.size
    have kk := K2.out.trans (k3.mono K2.out.size)
    rw [HLT.out] at q ⊢
    refine bodyPost_ret (v := .tuple #[.slice oa n c, .nilIface]) (by simp [results, Tryd.results36, go_sem]) rfl ?_
    exact ⟨fun _ => ⟨oa, c, rfl, q⟩, fun h => absurd e h, kk⟩
  · go_wp2_with (first
      | (go_at_call 34; refine S.out.mono ?_; rintro e w1 ⟨v1, rfl, o1, k1⟩; have O1 := Lib.hid o1.reads; have K1 := Lib.hid k1; clear o1 k1)
      | (go_at_call 53; refine (equal_any v1 _ _ l w1 O1.out (HV.out.below K1.out)).mono ?_; rintro e2 w2 ⟨he, k2⟩; rw [decide_eq_false e] at he; subst he; have K2 := Lib.hid (K1.out.trans (k2.mono K1.out.size)); clear k2)
      | fail)
    refine bodyPost_ret (v := .tuple #[.slice none 0 0, .iface 73 (.int .i64 9)]) (by simp [results, Tryd.results36, go_sem]) rfl ?_
    exact ⟨fun h => absurd h e, fun _ => rfl, K2.out⟩
theorem copen_bad (v : Value) (l : List UInt8) (w : World) (hv : IsBytes w v l) (hb : l.length ≤ 100000000) (h : Pl.openFault l ≠ 0) :
    Calls Tryd.prog 36 #[v] w fun e w' => e = .returned (.tuple #[.slice none 0 0, .iface 73 (.int .i64 (Pl.openFault l))]) ∧ Below w.heap.size w w' := by
  unfold Pl.openFault at h ⊢
  by_cases h4 : l.length < 4
  · rw [if_pos h4]; exact copen_short v l w hv h4
  · rw [if_neg h4] at h ⊢
    obtain ⟨b, off, cap, rfl, hlc, hcm, _⟩ := bytes_long hv (by omega)
    obtain ⟨n, hn⟩ : ∃ n, l.length = n + 4 := ⟨l.length - 4, by omega⟩
    have e : Pl.opened l = l.take n := by unfold Pl.opened; congr 1; omega
    rw [e] at h ⊢
    by_cases hs : Pl.sealB (l.take n) = l
    · rw [if_pos hs] at h; exact absurd rfl h
    · rw [if_neg hs]
      rw [hn] at hv ⊢
      exact (copen_long b off n cap l hn (by omega) hcm hb w hv).mono fun e w' ⟨_, h2, k⟩ => ⟨h2 hs, k⟩
theorem copen_ok (v : Value) (l : List UInt8) (w : World) (hv : IsBytes w v l) (hb : l.length ≤ 100000000) (h : Pl.openFault l = 0) :
    Calls Tryd.prog 36 #[v] w fun e w' => ∃ oa n c, e = .returned (.tuple #[.slice oa n c, .nilIface]) ∧ OwnB w' w.heap.size (.slice oa n c) (Pl.opened l) ∧ Below w.heap.size w w' := by
  unfold Pl.openFault at h
  by_cases h4 : l.length < 4
  · rw [if_pos h4] at h; cases h
  · rw [if_neg h4] at h
    obtain ⟨b, off, cap, rfl, hlc, hcm, _⟩ := bytes_long hv (by omega)
    obtain ⟨n, hn⟩ : ∃ n, l.length = n + 4 := ⟨l.length - 4, by omega⟩
    have e : Pl.opened l = l.take n := by unfold Pl.opened; congr 1; omega
    rw [e] at h ⊢
    by_cases hs : Pl.sealB (l.take n) = l
    · rw [hn] at hv ⊢
      exact (copen_long b off n cap l hn (by omega) hcm hb w hv).mono fun e w' ⟨h1, _, k⟩ => by
        obtain ⟨oa, c, he, ho⟩ := h1 hs
        exact ⟨oa, n, c, he, ho, k⟩
    · rw [if_neg hs] at h; cases h
end Go.Proofs.YticihmkgdabgiaaDoor
