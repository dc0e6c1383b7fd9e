import Derived.Test.YticihmkgdabgiaaDoorRefBytes
/-! The reference's Open, Word. -/
namespace Go.Proofs.YticihmkgdabgiaaDoor
open Go.RowKit
set_option linter.unusedVariables false
set_option linter.unusedSimpArgs false
theorem refWord_any (z : Int) (w : World) : Calls Tryd.prog 30 #[.int .i64 z] w fun e w' => e = .returned (.bool (decide (0 ≤ z ∧ z ≤ 4294967295))) ∧ w = w' := by
  by_cases h1 : 0 ≤ z
  · by_cases h2 : z ≤ 4294967295
    · go_enter Tryd.func30, Tryd.ntmps30
      go_wp2
      go_ret
      exact ⟨by simp [h1, h2], rfl⟩
    · go_enter Tryd.func30, Tryd.ntmps30
      go_wp2
      go_ret
      exact ⟨by simp [h1, h2]; try omega, rfl⟩
  · go_enter Tryd.func30, Tryd.ntmps30
    go_wp2
    go_ret
    exact ⟨by simp [h1]; try omega, rfl⟩
set_option maxRecDepth 100000 in
set_option maxHeartbeats 2000000 in
theorem ropen_short (v : Value) (l : List UInt8) (w : World) (hv : IsBytes w v l) (h : l.length < 4) :
    Calls Tryd.prog 35 #[v] w fun e w' => e = .returned (.tuple #[.slice none 0 0, .int .i64 8]) ∧ Below w.heap.size w w' := by
  obtain ⟨oa, c, rfl, _⟩ := bytes_slice hv
  go_enter Tryd.func35, Tryd.ntmps35
  go_wp2
  refine bodyPost_ret (v := .tuple #[.slice none 0 0, .int .i64 8]) (by simp [results, Tryd.results35, go_sem]) rfl ?_
  exact ⟨rfl, Below.refl _ _⟩
set_option maxRecDepth 100000 in
set_option maxHeartbeats 2000000 in
theorem ropen_long (b off n cap : Nat) (l : List UInt8) (hn : l.length = n + 4) (hc : n + 4 ≤ cap) (hm : cap ≤ maxLen) (w : World) (hv : IsBytes w (.slice (some ⟨b, off, none⟩) (n + 4) cap) l) :
    Calls Tryd.prog 35 #[.slice (some ⟨b, off, none⟩) (n + 4) cap] w fun e w' => (Pl.sealB (l.take n) = l → e = .returned (.tuple #[.slice (some ⟨b, off, none⟩) n cap, .int .i64 0])) ∧ (Pl.sealB (l.take n) ≠ l → e = .returned (.tuple #[.slice none 0 0, .int .i64 9])) ∧ Below w.heap.size w w' := by
  have N1 := Lib.hid (fun m => refNumber_any (.slice (some ⟨b, off + n, none⟩) 4 (cap - n)) (l.drop n) (w.drewN m) (by
    have q := sub_bytes hv n (n + 4) (by omega) (by omega) hm (by omega) 4 (cap - n) (by omega) rfl
    rw [if_neg (by omega), show n + 4 - n = 4 by omega, List.take_of_length_le (by rw [List.length_drop]; omega)] at q
    exact q.drewN m) (by rw [List.length_drop]; omega))
  have M1 := Lib.hid (fun m => refSum_any (.slice (some ⟨b, off, none⟩) n cap) (l.take n) (w.drewN m) ((Sl.take (fun i hi => by rw [bytes_at hv i hi]; simp [List.getD, hi]) (by omega) (by omega) hm : IsBytes w _ _).drewN m))
  have IFF := Lib.hid (Pl.open_num l n hn)
  unfold maxLen at hm
  clear hv hn
  have hnc : ¬ cap = n := by omega
  have i1 : (n : Int) ≤ (cap : Int) := by omega
  have i2 : (n : Int) + 4 ≤ (cap : Int) := by omega
  generalize Pl.sumI (l.take n) = y at *
  generalize Pl.getB (l.drop n) = x at *
  by_cases e : x = y
  · subst e
    go_enter Tryd.func35, Tryd.ntmps35
    go_upto_region 4 with fail
    go_quiet ((first
      | (go_at_call 45; exact Calls.quietS (N1.out _))
      | (go_at_call 29; exact Calls.quietS (M1.out _))))
    go_wp2
    refine bodyPost_ret (v := .tuple #[.slice (some ⟨b, off, none⟩) n cap, .int .i64 0]) (by simp [results, Tryd.results35, go_sem]) rfl ?_
    exact ⟨fun _ => rfl, fun h => absurd (by first | exact IFF.out.1 rfl | exact IFF.out.1 trivial) h, Below.drewN (Below.refl _ _) _⟩
  · have d : (x != y) = true := by simpa using e
    go_enter Tryd.func35, Tryd.ntmps35
    go_upto_region 4 with fail
    go_quiet ((first
      | (go_at_call 45; exact Calls.quietS (N1.out _))
      | (go_at_call 29; exact Calls.quietS (M1.out _))))
    go_wp2
    refine bodyPost_ret (v := .tuple #[.slice none 0 0, .int .i64 9]) (by simp [results, Tryd.results35, go_sem]) rfl ?_
    exact ⟨fun h => absurd (IFF.out.2 h) e, fun _ => rfl, Below.drewN (Below.refl _ _) _⟩
/-- the reference opens as the program does -/
theorem ropen_any (v : Value) (l : List UInt8) (w : World) (hv : IsBytes w v l) :
    Calls Tryd.prog 35 #[v] w fun e w' => ∃ oa n c, e = .returned (.tuple #[.slice oa n c, .int .i64 (Pl.openFault l)]) ∧ IsBytes w (.slice oa n c) (if Pl.openFault l = 0 then Pl.opened l else []) ∧ Below w.heap.size w w' := by
  unfold Pl.openFault
  by_cases h4 : l.length < 4
  · rw [if_pos h4]
    exact (ropen_short v l w hv h4).mono fun e w' ⟨h1, h2⟩ => ⟨none, 0, 0, h1, by rw [if_neg (by decide)]; exact Sl.nil _, h2⟩
  · rw [if_neg h4]
    obtain ⟨b, off, cap, rfl, hlc, hcm, _⟩ := bytes_long hv (by omega)
    obtain ⟨n, hn⟩ : ∃ n, l.length = n + 4 := ⟨l.length - 4, by omega⟩
    have e : Pl.opened l = l.take n := by unfold Pl.opened; congr 1; omega
    rw [e]
    have hv0 := hv
    rw [hn] at hv ⊢
    have R := ropen_long b off n cap l hn (by omega) hcm w hv
    by_cases hs : Pl.sealB (l.take n) = l
    · rw [if_pos hs]
      exact R.mono fun e w' ⟨h1, _, h3⟩ => ⟨_, _, _, h1 hs, by rw [if_pos rfl]; exact Sl.take (fun i hi => by rw [bytes_at hv i hi]; simp [List.getD, hi]) (by omega) (by omega) hcm, h3⟩
    · rw [if_neg hs]
      exact R.mono fun e w' ⟨_, h2, h3⟩ => ⟨none, 0, 0, h2 hs, by rw [if_neg (by decide)]; exact Sl.nil _, h3⟩
end Go.Proofs.YticihmkgdabgiaaDoor
