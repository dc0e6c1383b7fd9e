import Derived.Test.YticihmkgdabgiaaDoorFrameR
/-! frame.Read of a frame's bytes; frame.Pass. -/
namespace Go.Proofs.YticihmkgdabgiaaDoor
open Go.RowKit
set_option linter.unusedVariables false
set_option linter.unusedSimpArgs false
namespace Pl
theorem byteAt_back {t : Int} (h1 : 0 ≤ t) (h2 : t ≤ 255) : ((byteAt t 0).toNat : Int) = t := (byte0 t h1 h2).symm
structure FrParts (t o ep h : Int) (l x : List UInt8) : Prop where
  len : 6 < x.length
  b70 : bAt x 0 = 70
  e1 : ((bAt x 1).toNat : Int) = t
  e2 : ((bAt x 2).toNat : Int) = o
  e3 : ((bAt x 3).toNat : Int) = h
  e4 : getB ((x.drop 4).take 2) = ep
  e5 : x.drop 6 = l
theorem frBody_parts {t o ep h : Int} {l : List UInt8} (hf : frFault t o ep h l = 0) : FrParts t o ep h l (frBody t o ep h l) := by
  obtain ⟨⟨g1, g2, g3, g4, g5, g6, g7, g8⟩, hr⟩ := frFault_ok hf
  obtain ⟨r1, _, _⟩ := read_ok hr
  have e : frBody t o ep h l = 70 :: byteAt t 0 :: byteAt o 0 :: byteAt h 0 :: byteAt ep 1 :: byteAt ep 0 :: l := by simp [frBody, putB]
  refine ⟨by rw [frBody_length]; omega, by rw [e]; rfl, ?_, ?_, ?_, ?_, by rw [e]; rfl⟩
  · rw [e]; exact byteAt_back (by omega) (by omega)
  · rw [e]; exact byteAt_back (by omega) (by omega)
  · rw [e]; exact byteAt_back (by omega) (by omega)
  · rw [e]
    show getB (putB ep 2) = ep
    exact getB_putB' 2 ep g5 (by omega)
end Pl
theorem fread_frame (t o ep h : Int) (v : Value) (l : List UInt8) (w : World) (hv : IsBytes w v (Pl.frBytes t o ep h l)) (hf : Pl.frFault t o ep h l = 0) :
    Calls Tryd.prog 11 #[v] w fun e w' => ∃ oa n c, e = .returned (.tuple #[frV t o ep h (.slice oa n c), .nilIface]) ∧ IsBytes w' (.slice oa n c) l ∧ Below w.heap.size w w' ∧ (∀ a, oa = some a → w.heap.size ≤ a.block) := by
  obtain ⟨r1, r2, r3⟩ := Pl.read_ok (Pl.frFault_ok hf).2
  obtain ⟨p1, p2, p3, p4, p5, p6, p7⟩ := Pl.frBody_parts hf
  have h0 := fread_ok v (Pl.frBytes t o ep h l) (Pl.frBody t o ep h l) w hv (by rw [Pl.frBytes_length]; omega) (Pl.open_seal_ok _) (Pl.open_seal _) p1 p2
  rw [p3, p4, p5, p6, p7] at h0
  exact h0 hf
set_option maxRecDepth 100000 in
set_option maxHeartbeats 2000000 in
theorem pass_full (t o ep : Int) (v : Value) (l : List UInt8) (w : World) (hv : IsBytes w v (Pl.frBytes t o ep 64 l)) (hf : Pl.frFault t o ep 64 l = 0) :
    Calls Tryd.prog 14 #[v] w fun e w' => e = .returned (.tuple #[.slice none 0 0, .iface 73 (.int .i64 6)]) ∧ Below w.heap.size w w' := by
  have R := Lib.hid (fread_frame t o ep 64 v l w hv hf)
  clear hv hf
  go_enter Tryd.func14, Tryd.ntmps14
  go_wp2_with (go_at_call 11; refine R.out.mono ?_; rintro e w1 ⟨oa, n, c, rfl, hb, kb, -⟩)
  refine bodyPost_ret (v := .tuple #[.slice none 0 0, .iface 73 (.int .i64 6)]) (by simp [results, Tryd.results14, go_sem]) rfl ?_
  exact ⟨rfl, Below.alloc kb kb.size _⟩
set_option maxRecDepth 100000 in
set_option maxHeartbeats 2000000 in
theorem pass_ok (t o ep h : Int) (v : Value) (l : List UInt8) (w : World) (hv : IsBytes w v (Pl.frBytes t o ep h l)) (hf : Pl.frFault t o ep h l = 0) (hf2 : Pl.frFault t o ep (h + 1) l = 0) (hlt : h < 64) :
    Calls Tryd.prog 14 #[v] w fun e w' => ∃ oa c, e = .returned (.tuple #[.slice oa (10 + l.length) c, .nilIface]) ∧ IsBytes w' (.slice oa (10 + l.length) c) (Pl.frBytes t o ep (h + 1) l) ∧ Below w.heap.size w w' := by
  have R := Lib.hid (fread_frame t o ep h v l w hv hf)
  obtain ⟨⟨g1, g2, g3, g4, g5, g6, g7, g8⟩, -⟩ := Pl.frFault_ok hf
  have d : (h == 64) = false := by rw [beq_eq_false_iff_ne]; omega
  have HF := Lib.hid hf2
  clear hv hf hf2
  go_enter Tryd.func14, Tryd.ntmps14
  go_wp2_with (first
    | (go_at_call 11; refine R.out.mono ?_; rintro e w1 ⟨oa, n, c, rfl, hb, kb, -⟩; have HB := Lib.hid hb; have KB := Lib.hid kb; clear hb kb)
    | (go_at_call 10; refine (fencode_ok t o ep (h + 1) _ l _ (HB.out.below ((Below.refl _ _).alloc (Nat.le_refl _) _)) HF.out).mono ?_; rintro e w2 ⟨ob, c2, rfl, o2, k2⟩)
    | fail)
  refine bodyPost_ret (v := .tuple #[.slice ob (10 + l.length) c2, .nilIface]) (by simp [results, Tryd.results14, go_sem]) rfl ?_
  exact ⟨ob, c2, rfl, o2.reads, KB.out.trans (((Below.refl _ _).alloc (Nat.le_refl _) _).trans (k2.mono (by simp)) |>.mono KB.out.size)⟩
end Go.Proofs.YticihmkgdabgiaaDoor
