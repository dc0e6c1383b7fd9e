import Derived.Test.YtanmokomefdaiaaDoorLinkAny
/-! Contracts of the reference's side of a link, way by way (printed by wip/tools/gen_reflink.py). -/
namespace Go.Proofs.YtanmokomefdaiaaDoor
open Go.RowKit
set_option linter.unusedVariables false
set_option linter.unusedSimpArgs false
/-- the reference's side in memory -/
def RLinkAt (w : World) (b : Nat) (x : Pl.Lk) : Prop := w.heap[b]? = some (.cells #[.int .i64 x.me, .int .i64 x.other, .int .i64 x.state, .int .i64 x.heard, .int .i64 x.sent, .int .i64 x.now] 76 (0, 0))
theorem RLinkAt.other {a c : World} {b N : Nat} {x : Pl.Lk} (h : RLinkAt a b x) (k : KeepsBut N a c) (hn : b ≠ N) : RLinkAt c b x := Keeps.heap k h hn
theorem RLinkAt.below {a c : World} {b B : Nat} {x : Pl.Lk} (h : RLinkAt a b x) (kk : Below B a c) (hn : b < B) : RLinkAt c b x := Below.heapAt kk h hn
/-- what a call of the reference's side does -/
def DidRef (w : World) (b : Nat) (r : Pl.Out) (e : Ending) (w' : World) : Prop := ∃ v', e = .returned (.tuple #[v', .int .i64 r.f]) ∧ RLinkAt w' b r.x ∧ SaidAt w.heap.size w' v' r.l ∧ KeepsBut b w w'
theorem didrl_off {w w' : World} {b : Nat} {y : Pl.Lk} {e : Ending} (h : e = .returned (.tuple #[.slice none 0 0, .int .i64 0]) ∧ RLinkAt w' b y ∧ KeepsBut b w w') : DidRef w b ⟨y, [], 0⟩ e w' :=
  ⟨_, h.1, h.2.1, .inl ⟨rfl, rfl⟩, h.2.2⟩
theorem didrl_fault {w w' : World} {b : Nat} {x : Pl.Lk} {e : Ending} {f : Int} (hf : f ≠ 0) (hg : RLinkAt w b x) (h : e = .returned (.tuple #[.slice none 0 0, .int .i64 f]) ∧ w = w') : DidRef w b ⟨x, [], f⟩ e w' := by
  obtain ⟨h1, rfl⟩ := h
  exact ⟨_, h1, hg, .inl ⟨rfl, rfl⟩, KeepsBut.refl _ _⟩
theorem didrl_say {w w' : World} {b : Nat} {y : Pl.Lk} {e : Ending} {k a s : Int} (h : ∃ g', e = .returned (.tuple #[.slice (some ⟨g', 0, none⟩) 3 3, .int .i64 0]) ∧ w.heap.size ≤ g' ∧ MsgAt w' g' k a s ∧ RLinkAt w' b y ∧ KeepsBut b w w') : DidRef w b ⟨y, [k, a, s], 0⟩ e w' := by
  obtain ⟨g, h1, h2, h3, h4, h5⟩ := h
  exact ⟨_, h1, h4, .inr ⟨g, k, a, s, rfl, h2, rfl, h3⟩, h5⟩
theorem MsgAt.new (w : World) (k s o : Int) (n : Nat) : MsgAt ((w.alloc (.cells #[.int .i64 k, .int .i64 s, .int .i64 o] 3)).drewN n) w.heap.size k s o := obj_new w _

theorem rTimeOf_ok (n : Int) (h1 : 0 ≤ n) (h2 : n ≤ 1000000) (w : World) :
    Calls Tryd.prog 50 #[.int .i64 n] w fun e w' => e = .returned (.bool true) ∧ w = w' := by
  go_enter Tryd.func50, Tryd.ntmps50
  go_wp2
  go_ret
  first | exact ⟨rfl, rfl⟩ | exact ⟨by simp [*], rfl⟩
theorem rTimeOf_bad (n : Int) (h : ¬ (0 ≤ n ∧ n ≤ 1000000)) (w : World) :
    Calls Tryd.prog 50 #[.int .i64 n] w fun e w' => e = .returned (.bool false) ∧ w = w' := by
  have G := Lib.hid h
  clear h
  go_enter Tryd.func50, Tryd.ntmps50
  go_wp2
  all_goals (go_ret; first | exact ⟨rfl, rfl⟩ | exact ⟨by have := G.out; simp; omega, rfl⟩ | (exfalso; have := G.out; omega))
theorem rlTime_ok (b : Nat) (x : Pl.Lk) (now : Int) (h : Pl.clockOk x.now now) (w : World) (hg : RLinkAt w b x) :
    Calls Tryd.prog 57 #[.pointer (some ⟨b, 0, none⟩), .int .i64 now] w fun e w' => e = .returned (.int .i64 0) ∧ w = w' := by
  obtain ⟨h1, h2, h3⟩ := h
  have k5 := obj_cell hg (k := 5) rfl
  go_enter Tryd.func57, Tryd.ntmps57
  go_wp2_with fail
  refine (rTimeOf_ok now h1 h2 _).mono ?_
  rintro e w' ⟨rfl, rfl⟩
  go_wp2
  go_ret
  exact ⟨rfl, rfl⟩
theorem rlTime_bad (b : Nat) (x : Pl.Lk) (now f : Int) (hf : f = Pl.clockFault now) (h : ¬ Pl.clockOk x.now now) (w : World) (hg : RLinkAt w b x) :
    Calls Tryd.prog 57 #[.pointer (some ⟨b, 0, none⟩), .int .i64 now] w fun e w' => e = .returned (.int .i64 f) ∧ w = w' := by
  subst hf
  have k5 := obj_cell hg (k := 5) rfl
  by_cases hr : 0 ≤ now ∧ now ≤ 1000000
  · rw [show Pl.clockFault now = 6 from by unfold Pl.clockFault; rw [if_neg (by omega)]]
    have hlt : now < x.now := by unfold Pl.clockOk at h; omega
    obtain ⟨h1, h2⟩ := hr
    clear h
    go_enter Tryd.func57, Tryd.ntmps57
    go_wp2_with fail
    refine (rTimeOf_ok now h1 h2 _).mono ?_
    rintro e w' ⟨rfl, rfl⟩
    go_wp2
    go_ret
    exact ⟨rfl, rfl⟩
  · rw [show Pl.clockFault now = 1 from by unfold Pl.clockFault; rw [if_pos (by omega)]]
    clear h
    go_enter Tryd.func57, Tryd.ntmps57
    go_wp2_with fail
    refine (rTimeOf_bad now hr _).mono ?_
    rintro e w' ⟨rfl, rfl⟩
    clear hr
    go_wp2
    go_ret
    exact ⟨rfl, rfl⟩

set_option maxRecDepth 100000 in
theorem rlHear_timeF (b : Nat) (x : Pl.Lk) (now f : Int) (v : Value) (hc : ¬ Pl.clockOk x.now now) (hf : Hid (f = Pl.clockFault now)) (d : (f == 0) = false) (d2 : (f != 0) = true) (w : World) (hg : RLinkAt w b x) :
    Calls Tryd.prog 35 #[.pointer (some ⟨b, 0, none⟩), v, .int .i64 now] w fun e w' => e = .returned (.tuple #[.slice none 0 0, .int .i64 f]) ∧ w = w' := by
  go_enter Tryd.func35, Tryd.ntmps35
  go_wp2_with fail
  refine (rlTime_bad b x now f hf.out hc _ hg).mono ?_
  rintro e w' ⟨rfl, rfl⟩
  go_wp2
  go_ret2
  exact ⟨rfl, rfl⟩
theorem rlHear_time (b : Nat) (x : Pl.Lk) (now : Int) (v : Value) (hc : ¬ Pl.clockOk x.now now) (w : World) (hg : RLinkAt w b x) :
    Calls Tryd.prog 35 #[.pointer (some ⟨b, 0, none⟩), v, .int .i64 now] w fun e w' => e = .returned (.tuple #[.slice none 0 0, .int .i64 (Pl.clockFault now)]) ∧ w = w' :=
  rlHear_timeF b x now (Pl.clockFault now) v hc (Lib.hid rfl) (by simpa using Pl.clockFault_ne now) (by simpa using Pl.clockFault_ne now) w hg
set_option maxRecDepth 100000 in
theorem rlHear_shape (b : Nat) (x : Pl.Lk) (now : Int) (oa : Option Addr) (n c : Nat) (hn : n ≠ 3) (hc : Pl.clockOk x.now now) (w : World) (hg : RLinkAt w b x) :
    Calls Tryd.prog 35 #[.pointer (some ⟨b, 0, none⟩), .slice oa n c, .int .i64 now] w fun e w' => e = .returned (.tuple #[.slice none 0 0, .int .i64 3]) ∧ w = w' := by
  go_enter Tryd.func35, Tryd.ntmps35
  go_wp2_with fail
  refine (rlTime_ok b x now hc _ hg).mono ?_
  rintro e w' ⟨rfl, rfl⟩
  go_wp2
  go_ret2
  exact ⟨rfl, rfl⟩
set_option maxRecDepth 100000 in
set_option maxHeartbeats 2000000 in
theorem rlHear_range (b g off c : Nat) (x : Pl.Lk) (now k s o : Int) (h : ¬ Pl.msgOk k s o) (hc : Pl.clockOk x.now now) (w : World) (hg : RLinkAt w b x) (hm : MsgIn w g off k s o) :
    Calls Tryd.prog 35 #[.pointer (some ⟨b, 0, none⟩), .slice (some ⟨g, off, none⟩) 3 c, .int .i64 now] w fun e w' => e = .returned (.tuple #[.slice none 0 0, .int .i64 1]) ∧ w = w' := by
  have G := Lib.hid h
  clear h
  obtain ⟨m0, m1, m2⟩ := hm
  go_enter Tryd.func35, Tryd.ntmps35
  go_wp2_with fail
  refine (rlTime_ok b x now hc _ hg).mono ?_
  rintro e w' ⟨rfl, rfl⟩
  clear hg hc
  go_upto_region 4 with fail
  go_cut [59] (fun v y => v = .bool true ∧ w = y)
  case first =>
    go_wp2
    all_goals first
      | (exfalso; exact G.out ⟨by omega, by omega, by omega, by omega, by omega, by omega⟩)
      | (go_meet; exact ⟨rfl, rfl⟩)
      | (go_meet; exact ⟨congrArg Value.bool (by have := G.out; unfold Pl.msgOk at this; simp; omega), rfl⟩)
  case rest =>
  obtain ⟨hv, hw⟩ := hcut
  subst hv
  subst hw
  go_wp2
  go_ret2
  exact ⟨rfl, rfl⟩
set_option maxRecDepth 100000 in
theorem rlOpen_badF (b : Nat) (x : Pl.Lk) (now f : Int) (hc : ¬ Pl.clockOk x.now now) (hf : Hid (f = Pl.clockFault now)) (d : (f == 0) = false) (d2 : (f != 0) = true) (w : World) (hg : RLinkAt w b x) :
    Calls Tryd.prog 33 #[.pointer (some ⟨b, 0, none⟩), .int .i64 now] w fun e w' => e = .returned (.tuple #[.slice none 0 0, .int .i64 f]) ∧ w = w' := by
  go_enter Tryd.func33, Tryd.ntmps33
  go_wp2_with fail
  refine (rlTime_bad b x now f hf.out hc _ hg).mono ?_
  rintro e w' ⟨rfl, rfl⟩
  go_wp2
  go_ret2
  exact ⟨rfl, rfl⟩
theorem rlOpen_bad (b : Nat) (x : Pl.Lk) (now : Int) (hc : ¬ Pl.clockOk x.now now) (w : World) (hg : RLinkAt w b x) :
    Calls Tryd.prog 33 #[.pointer (some ⟨b, 0, none⟩), .int .i64 now] w fun e w' => e = .returned (.tuple #[.slice none 0 0, .int .i64 (Pl.clockFault now)]) ∧ w = w' :=
  rlOpen_badF b x now (Pl.clockFault now) hc (Lib.hid rfl) (by simpa using Pl.clockFault_ne now) (by simpa using Pl.clockFault_ne now) w hg
set_option maxRecDepth 100000 in
theorem rlOpen_state (b : Nat) (x : Pl.Lk) (now : Int) (hc : Pl.clockOk x.now now) (hs : (x.state == 2) = true) (w : World) (hg : RLinkAt w b x) :
    Calls Tryd.prog 33 #[.pointer (some ⟨b, 0, none⟩), .int .i64 now] w fun e w' => e = .returned (.tuple #[.slice none 0 0, .int .i64 6]) ∧ w = w' := by
  have k2 := obj_cell hg (k := 2) rfl
  go_enter Tryd.func33, Tryd.ntmps33
  go_wp2_with fail
  refine (rlTime_ok b x now hc _ hg).mono ?_
  rintro e w' ⟨rfl, rfl⟩
  go_wp2
  go_ret2
  exact ⟨rfl, rfl⟩
set_option maxRecDepth 100000 in
theorem rlOpen_ok (b : Nat) (x : Pl.Lk) (now : Int) (hc : Pl.clockOk x.now now) (hs : (x.state == 2) = false) (w : World) (hg : RLinkAt w b x) :
    Calls Tryd.prog 33 #[.pointer (some ⟨b, 0, none⟩), .int .i64 now] w fun e w' => ∃ g', e = .returned (.tuple #[.slice (some ⟨g', 0, none⟩) 3 3, .int .i64 0]) ∧ w.heap.size ≤ g' ∧ MsgAt w' g' 1 x.me 0 ∧ RLinkAt w' b { x with now := now, state := 1, sent := now } ∧ KeepsBut b w w' := by
  have k2 := obj_cell hg (k := 2) rfl
  have f5 := obj_free hg 5
  have f4 := obj_free hg 4
  have f2 := obj_free hg 2
  have k0 := obj_cell hg (k := 0) rfl
  have k4 := obj_cell hg (k := 4) rfl
  have k5 := obj_cell hg (k := 5) rfl
  go_enter Tryd.func33, Tryd.ntmps33
  go_wp2_with fail
  refine (rlTime_ok b x now hc _ hg).mono ?_
  rintro e w' ⟨rfl, rfl⟩
  go_upto_region 9 with fail
  refine abs_at (fun y => RLinkAt y b { x with now := now, state := 1, sent := now } ∧ KeepsBut b w y) ⟨obj_set (obj_set (obj_set hg 5 _) 4 _) 2 _, KeepsBut.set (KeepsBut.set (KeepsBut.set (KeepsBut.refl _ _) _ _) _ _) _ _⟩ ?_
  clear hg k2 f5 f4 f2 k0 k4 k5
  rintro wy ⟨hg, kk⟩
  have k0 := obj_cell hg (k := 0) rfl
  simp only [] at k0
  go_wp2
  go_ret2
  exact ⟨_, rfl, kk.size, MsgAt.new wy 1 x.me 0 0, obj_old hg _, Keeps.alloc kk _⟩
set_option maxRecDepth 100000 in
theorem rlTick_timeF (b : Nat) (x : Pl.Lk) (now f : Int) (hc : ¬ Pl.clockOk x.now now) (hf : Hid (f = Pl.clockFault now)) (d : (f == 0) = false) (d2 : (f != 0) = true) (w : World) (hg : RLinkAt w b x) :
    Calls Tryd.prog 37 #[.pointer (some ⟨b, 0, none⟩), .int .i64 now] w fun e w' => e = .returned (.tuple #[.slice none 0 0, .int .i64 f]) ∧ w = w' := by
  go_enter Tryd.func37, Tryd.ntmps37
  go_wp2_with fail
  refine (rlTime_bad b x now f hf.out hc _ hg).mono ?_
  rintro e w' ⟨rfl, rfl⟩
  go_wp2
  go_ret2
  exact ⟨rfl, rfl⟩
theorem rlTick_time (b : Nat) (x : Pl.Lk) (now : Int) (hc : ¬ Pl.clockOk x.now now) (w : World) (hg : RLinkAt w b x) :
    Calls Tryd.prog 37 #[.pointer (some ⟨b, 0, none⟩), .int .i64 now] w fun e w' => e = .returned (.tuple #[.slice none 0 0, .int .i64 (Pl.clockFault now)]) ∧ w = w' :=
  rlTick_timeF b x now (Pl.clockFault now) hc (Lib.hid rfl) (by simpa using Pl.clockFault_ne now) (by simpa using Pl.clockFault_ne now) w hg
set_option maxRecDepth 100000 in
set_option maxHeartbeats 2000000 in
theorem rlTick_dead (b : Nat) (x : Pl.Lk) (now : Int) (hc : Pl.clockOk x.now now) (hd : (x.state == 2) = true) (h1 : 30 ≤ now - x.heard) (hx : 0 ≤ x.heard ∧ x.heard ≤ 1000000 ∧ 0 ≤ x.sent ∧ x.sent ≤ 1000000) (w : World) (hg : RLinkAt w b x) :
    Calls Tryd.prog 37 #[.pointer (some ⟨b, 0, none⟩), .int .i64 now] w fun e w' => e = .returned (.tuple #[.slice none 0 0, .int .i64 0]) ∧ RLinkAt w' b { x with now := now, state := 0, other := 0 } ∧ KeepsBut b w w' := by
  have k5 := obj_cell hg (k := 5) rfl
  have f5 := obj_free hg 5
  obtain ⟨x1, x2, x3, x4⟩ := hx
  have hcc := hc
  obtain ⟨n1, n2, n3⟩ := hcc
  go_enter Tryd.func37, Tryd.ntmps37
  go_wp2_with fail
  refine (rlTime_ok b x now hc _ hg).mono ?_
  rintro e w' ⟨rfl, rfl⟩
  go_upto_region 5 with fail
  refine abs_at (fun y => RLinkAt y b (x.tick now) ∧ KeepsBut b w y) ⟨obj_set hg 5 _, KeepsBut.set (KeepsBut.refl _ _) _ _⟩ ?_
  clear hg k5 f5
  rintro wx ⟨hg, kk⟩
  have k0 := obj_cell hg (k := 0) rfl
  have k1 := obj_cell hg (k := 1) rfl
  have k2 := obj_cell hg (k := 2) rfl
  have k3 := obj_cell hg (k := 3) rfl
  have k4 := obj_cell hg (k := 4) rfl
  have f1 := obj_free hg 1
  have f2 := obj_free hg 2
  have f4 := obj_free hg 4
  simp only [Pl.Lk.tick] at k0 k1 k2 k3 k4
  go_wp2
  go_ret2
  exact ⟨rfl, obj_set (obj_set hg 2 _) 1 _, KeepsBut.set (KeepsBut.set kk _ _) _ _⟩

set_option maxRecDepth 100000 in
set_option maxHeartbeats 2000000 in
theorem rlTick_quiet (b : Nat) (x : Pl.Lk) (now : Int) (hc : Pl.clockOk x.now now) (hd : (x.state == 2) = true) (hd0 : (x.state == 0) = false) (h1 : now - x.heard < 30) (h2 : now - x.sent < 10) (hx : 0 ≤ x.heard ∧ x.heard ≤ 1000000 ∧ 0 ≤ x.sent ∧ x.sent ≤ 1000000) (w : World) (hg : RLinkAt w b x) :
    Calls Tryd.prog 37 #[.pointer (some ⟨b, 0, none⟩), .int .i64 now] w fun e w' => e = .returned (.tuple #[.slice none 0 0, .int .i64 0]) ∧ RLinkAt w' b (x.tick now) ∧ KeepsBut b w w' := by
  have k5 := obj_cell hg (k := 5) rfl
  have f5 := obj_free hg 5
  obtain ⟨x1, x2, x3, x4⟩ := hx
  have hcc := hc
  obtain ⟨n1, n2, n3⟩ := hcc
  go_enter Tryd.func37, Tryd.ntmps37
  go_wp2_with fail
  refine (rlTime_ok b x now hc _ hg).mono ?_
  rintro e w' ⟨rfl, rfl⟩
  go_upto_region 5 with fail
  refine abs_at (fun y => RLinkAt y b (x.tick now) ∧ KeepsBut b w y) ⟨obj_set hg 5 _, KeepsBut.set (KeepsBut.refl _ _) _ _⟩ ?_
  clear hg k5 f5
  rintro wx ⟨hg, kk⟩
  have k0 := obj_cell hg (k := 0) rfl
  have k1 := obj_cell hg (k := 1) rfl
  have k2 := obj_cell hg (k := 2) rfl
  have k3 := obj_cell hg (k := 3) rfl
  have k4 := obj_cell hg (k := 4) rfl
  have f1 := obj_free hg 1
  have f2 := obj_free hg 2
  have f4 := obj_free hg 4
  simp only [Pl.Lk.tick] at k0 k1 k2 k3 k4
  go_wp2
  go_ret2
  exact ⟨rfl, hg, kk⟩

set_option maxRecDepth 100000 in
set_option maxHeartbeats 2000000 in
theorem rlTick_say (b : Nat) (x : Pl.Lk) (now : Int) (hc : Pl.clockOk x.now now) (hd : (x.state == 2) = true) (hd0 : (x.state == 0) = false) (h1 : now - x.heard < 30) (h2 : 10 ≤ now - x.sent) (hx : 0 ≤ x.heard ∧ x.heard ≤ 1000000 ∧ 0 ≤ x.sent ∧ x.sent ≤ 1000000) (w : World) (hg : RLinkAt w b x) :
    Calls Tryd.prog 37 #[.pointer (some ⟨b, 0, none⟩), .int .i64 now] w fun e w' => ∃ g', e = .returned (.tuple #[.slice (some ⟨g', 0, none⟩) 3 3, .int .i64 0]) ∧ w.heap.size ≤ g' ∧ MsgAt w' g' 3 x.me x.other ∧ RLinkAt w' b { x with now := now, sent := now } ∧ KeepsBut b w w' := by
  have k5 := obj_cell hg (k := 5) rfl
  have f5 := obj_free hg 5
  obtain ⟨x1, x2, x3, x4⟩ := hx
  have hcc := hc
  obtain ⟨n1, n2, n3⟩ := hcc
  go_enter Tryd.func37, Tryd.ntmps37
  go_wp2_with fail
  refine (rlTime_ok b x now hc _ hg).mono ?_
  rintro e w' ⟨rfl, rfl⟩
  go_upto_region 5 with fail
  refine abs_at (fun y => RLinkAt y b (x.tick now) ∧ KeepsBut b w y) ⟨obj_set hg 5 _, KeepsBut.set (KeepsBut.refl _ _) _ _⟩ ?_
  clear hg k5 f5
  rintro wx ⟨hg, kk⟩
  have k0 := obj_cell hg (k := 0) rfl
  have k1 := obj_cell hg (k := 1) rfl
  have k2 := obj_cell hg (k := 2) rfl
  have k3 := obj_cell hg (k := 3) rfl
  have k4 := obj_cell hg (k := 4) rfl
  have f1 := obj_free hg 1
  have f2 := obj_free hg 2
  have f4 := obj_free hg 4
  simp only [Pl.Lk.tick] at k0 k1 k2 k3 k4
  go_upto_region 12 with fail
  refine abs_at (fun y => RLinkAt y b { x with now := now, sent := now } ∧ KeepsBut b w y) ⟨obj_set hg 4 _, KeepsBut.set kk _ _⟩ ?_
  clear hg kk k0 k1 k2 k3 k4 f1 f2 f4
  rintro wy ⟨hg, kk⟩
  have k0 := obj_cell hg (k := 0) rfl
  have k1 := obj_cell hg (k := 1) rfl
  have k2 := obj_cell hg (k := 2) rfl
  simp only [] at k0 k1 k2
  go_wp2
  go_region
  go_wp2
  go_ret2
  exact ⟨_, rfl, kk.size, MsgAt.new wy 3 x.me x.other 1, obj_old hg _, Keeps.drew (Keeps.alloc kk _)⟩

set_option maxRecDepth 100000 in
set_option maxHeartbeats 2000000 in
theorem rlTick_cold (b : Nat) (x : Pl.Lk) (now : Int) (hc : Pl.clockOk x.now now) (hd : (x.state == 2) = false) (hd0 : (x.state == 0) = true) (hx : 0 ≤ x.heard ∧ x.heard ≤ 1000000 ∧ 0 ≤ x.sent ∧ x.sent ≤ 1000000) (w : World) (hg : RLinkAt w b x) :
    Calls Tryd.prog 37 #[.pointer (some ⟨b, 0, none⟩), .int .i64 now] w fun e w' => e = .returned (.tuple #[.slice none 0 0, .int .i64 0]) ∧ RLinkAt w' b (x.tick now) ∧ KeepsBut b w w' := by
  have k5 := obj_cell hg (k := 5) rfl
  have f5 := obj_free hg 5
  obtain ⟨x1, x2, x3, x4⟩ := hx
  have hcc := hc
  obtain ⟨n1, n2, n3⟩ := hcc
  go_enter Tryd.func37, Tryd.ntmps37
  go_wp2_with fail
  refine (rlTime_ok b x now hc _ hg).mono ?_
  rintro e w' ⟨rfl, rfl⟩
  go_upto_region 5 with fail
  refine abs_at (fun y => RLinkAt y b (x.tick now) ∧ KeepsBut b w y) ⟨obj_set hg 5 _, KeepsBut.set (KeepsBut.refl _ _) _ _⟩ ?_
  clear hg k5 f5
  rintro wx ⟨hg, kk⟩
  have k0 := obj_cell hg (k := 0) rfl
  have k1 := obj_cell hg (k := 1) rfl
  have k2 := obj_cell hg (k := 2) rfl
  have k3 := obj_cell hg (k := 3) rfl
  have k4 := obj_cell hg (k := 4) rfl
  have f1 := obj_free hg 1
  have f2 := obj_free hg 2
  have f4 := obj_free hg 4
  simp only [Pl.Lk.tick] at k0 k1 k2 k3 k4
  go_wp2
  go_ret2
  exact ⟨rfl, hg, kk⟩

set_option maxRecDepth 100000 in
set_option maxHeartbeats 2000000 in
theorem rlTick_said (b : Nat) (x : Pl.Lk) (now : Int) (hc : Pl.clockOk x.now now) (hd : (x.state == 2) = false) (hd0 : (x.state == 0) = false) (h1 : now - x.sent < 10) (hx : 0 ≤ x.heard ∧ x.heard ≤ 1000000 ∧ 0 ≤ x.sent ∧ x.sent ≤ 1000000) (w : World) (hg : RLinkAt w b x) :
    Calls Tryd.prog 37 #[.pointer (some ⟨b, 0, none⟩), .int .i64 now] w fun e w' => e = .returned (.tuple #[.slice none 0 0, .int .i64 0]) ∧ RLinkAt w' b (x.tick now) ∧ KeepsBut b w w' := by
  have k5 := obj_cell hg (k := 5) rfl
  have f5 := obj_free hg 5
  obtain ⟨x1, x2, x3, x4⟩ := hx
  have hcc := hc
  obtain ⟨n1, n2, n3⟩ := hcc
  go_enter Tryd.func37, Tryd.ntmps37
  go_wp2_with fail
  refine (rlTime_ok b x now hc _ hg).mono ?_
  rintro e w' ⟨rfl, rfl⟩
  go_upto_region 5 with fail
  refine abs_at (fun y => RLinkAt y b (x.tick now) ∧ KeepsBut b w y) ⟨obj_set hg 5 _, KeepsBut.set (KeepsBut.refl _ _) _ _⟩ ?_
  clear hg k5 f5
  rintro wx ⟨hg, kk⟩
  have k0 := obj_cell hg (k := 0) rfl
  have k1 := obj_cell hg (k := 1) rfl
  have k2 := obj_cell hg (k := 2) rfl
  have k3 := obj_cell hg (k := 3) rfl
  have k4 := obj_cell hg (k := 4) rfl
  have f1 := obj_free hg 1
  have f2 := obj_free hg 2
  have f4 := obj_free hg 4
  simp only [Pl.Lk.tick] at k0 k1 k2 k3 k4
  go_wp2
  go_ret2
  exact ⟨rfl, hg, kk⟩

set_option maxRecDepth 100000 in
set_option maxHeartbeats 2000000 in
theorem rlTick_hello (b : Nat) (x : Pl.Lk) (now : Int) (hc : Pl.clockOk x.now now) (hd : (x.state == 2) = false) (hd0 : (x.state == 0) = false) (h1 : 10 ≤ now - x.sent) (hx : 0 ≤ x.heard ∧ x.heard ≤ 1000000 ∧ 0 ≤ x.sent ∧ x.sent ≤ 1000000) (w : World) (hg : RLinkAt w b x) :
    Calls Tryd.prog 37 #[.pointer (some ⟨b, 0, none⟩), .int .i64 now] w fun e w' => ∃ g', e = .returned (.tuple #[.slice (some ⟨g', 0, none⟩) 3 3, .int .i64 0]) ∧ w.heap.size ≤ g' ∧ MsgAt w' g' 1 x.me 0 ∧ RLinkAt w' b { x with now := now, sent := now } ∧ KeepsBut b w w' := by
  have k5 := obj_cell hg (k := 5) rfl
  have f5 := obj_free hg 5
  obtain ⟨x1, x2, x3, x4⟩ := hx
  have hcc := hc
  obtain ⟨n1, n2, n3⟩ := hcc
  go_enter Tryd.func37, Tryd.ntmps37
  go_wp2_with fail
  refine (rlTime_ok b x now hc _ hg).mono ?_
  rintro e w' ⟨rfl, rfl⟩
  go_upto_region 5 with fail
  refine abs_at (fun y => RLinkAt y b (x.tick now) ∧ KeepsBut b w y) ⟨obj_set hg 5 _, KeepsBut.set (KeepsBut.refl _ _) _ _⟩ ?_
  clear hg k5 f5
  rintro wx ⟨hg, kk⟩
  have k0 := obj_cell hg (k := 0) rfl
  have k1 := obj_cell hg (k := 1) rfl
  have k2 := obj_cell hg (k := 2) rfl
  have k3 := obj_cell hg (k := 3) rfl
  have k4 := obj_cell hg (k := 4) rfl
  have f1 := obj_free hg 1
  have f2 := obj_free hg 2
  have f4 := obj_free hg 4
  simp only [Pl.Lk.tick] at k0 k1 k2 k3 k4
  go_upto_region 12 with fail
  refine abs_at (fun y => RLinkAt y b { x with now := now, sent := now } ∧ KeepsBut b w y) ⟨obj_set hg 4 _, KeepsBut.set kk _ _⟩ ?_
  clear hg kk k0 k1 k2 k3 k4 f1 f2 f4
  rintro wy ⟨hg, kk⟩
  have k0 := obj_cell hg (k := 0) rfl
  have k1 := obj_cell hg (k := 1) rfl
  have k2 := obj_cell hg (k := 2) rfl
  simp only [] at k0 k1 k2
  go_wp2
  go_ret2
  exact ⟨_, rfl, kk.size, MsgAt.new wy 1 x.me 0 0, obj_old hg _, (Keeps.alloc kk _)⟩

set_option maxRecDepth 100000 in
set_option maxHeartbeats 2000000 in
theorem rlHear_1cold (b g off c : Nat) (x : Pl.Lk) (now s o : Int) (hc : Pl.clockOk x.now now) (hd : (x.state == 2) = false) (hmsg : Pl.msgOk 1 s o) (w : World) (hg : RLinkAt w b x) (hm : MsgIn w g off 1 s o) (hne : g ≠ b) :
    Calls Tryd.prog 35 #[.pointer (some ⟨b, 0, none⟩), .slice (some ⟨g, off, none⟩) 3 c, .int .i64 now] w fun e w' => ∃ g', e = .returned (.tuple #[.slice (some ⟨g', 0, none⟩) 3 3, .int .i64 0]) ∧ w.heap.size ≤ g' ∧ MsgAt w' g' 2 x.me s ∧ RLinkAt w' b (x.warm now s now) ∧ KeepsBut b w w' := by
  have hm0 := hm
  obtain ⟨m0, m1, m2⟩ := hm0
  have k5 := obj_cell hg (k := 5) rfl
  have f5 := obj_free hg 5
  obtain ⟨h1, h2, h3, h4, h5, h6⟩ := hmsg
  go_enter Tryd.func35, Tryd.ntmps35
  go_wp2_with fail
  refine (rlTime_ok b x now hc _ hg).mono ?_
  rintro e w' ⟨rfl, rfl⟩
  go_upto_region 9 with fail
  refine abs_at (fun y => RLinkAt y b (x.tick now) ∧ MsgIn y g off 1 s o ∧ KeepsBut b w y) ⟨obj_set hg 5 _, MsgIn.other hm (KeepsBut.set (KeepsBut.refl _ _) _ _) hne, KeepsBut.set (KeepsBut.refl _ _) _ _⟩ ?_
  clear hg hm m0 m1 m2 k5 f5
  rintro wx ⟨hg, ⟨m0, m1, m2⟩, kk⟩
  have hm : MsgIn wx g off 1 s o := ⟨m0, m1, m2⟩
  have k0 := obj_cell hg (k := 0) rfl
  have k1 := obj_cell hg (k := 1) rfl
  have k2 := obj_cell hg (k := 2) rfl
  have k3 := obj_cell hg (k := 3) rfl
  have k4 := obj_cell hg (k := 4) rfl
  have f1 := obj_free hg 1
  have f2 := obj_free hg 2
  have f3 := obj_free hg 3
  have f4 := obj_free hg 4
  simp only [Pl.Lk.tick] at k0 k1 k2 k3 k4
  go_wp2_with fail
  go_quiet (fail)
  go_wp2_with fail
  go_quiet (fail)
  go_wp2_with fail
  go_upto_region 20 with fail
  refine abs_at (fun y => RLinkAt y b (x.warm now s now) ∧ KeepsBut b w y) ⟨obj_set (obj_set (obj_set (obj_set hg 2 _) 1 _) 3 _) 4 _, KeepsBut.set (KeepsBut.set (KeepsBut.set (KeepsBut.set (by repeat (first | exact kk | refine Keeps.drewN ?_ _)) _ _) _ _) _ _) _ _⟩ ?_
  clear hg hm kk m0 m1 m2 k0 k1 k2 k3 k4 f1 f2 f3 f4
  rintro wy ⟨hg, kk⟩
  have k0 := obj_cell hg (k := 0) rfl
  have k1 := obj_cell hg (k := 1) rfl
  simp only [Pl.Lk.warm] at k0 k1
  go_wp2
  go_region
  go_wp2
  go_ret2
  exact ⟨_, rfl, kk.size, MsgAt.new wy 2 x.me s 1, obj_old hg _, Keeps.drew (Keeps.alloc kk _)⟩

set_option maxRecDepth 100000 in
set_option maxHeartbeats 2000000 in
theorem rlHear_1old (b g off c : Nat) (x : Pl.Lk) (now s o : Int) (hc : Pl.clockOk x.now now) (hd : (x.state == 2) = true) (hl : decide (s < x.other) = true) (hmsg : Pl.msgOk 1 s o) (w : World) (hg : RLinkAt w b x) (hm : MsgIn w g off 1 s o) (hne : g ≠ b) :
    Calls Tryd.prog 35 #[.pointer (some ⟨b, 0, none⟩), .slice (some ⟨g, off, none⟩) 3 c, .int .i64 now] w fun e w' => e = .returned (.tuple #[.slice none 0 0, .int .i64 0]) ∧ RLinkAt w' b (x.tick now) ∧ KeepsBut b w w' := by
  have hm0 := hm
  obtain ⟨m0, m1, m2⟩ := hm0
  have k5 := obj_cell hg (k := 5) rfl
  have f5 := obj_free hg 5
  obtain ⟨h1, h2, h3, h4, h5, h6⟩ := hmsg
  go_enter Tryd.func35, Tryd.ntmps35
  go_wp2_with fail
  refine (rlTime_ok b x now hc _ hg).mono ?_
  rintro e w' ⟨rfl, rfl⟩
  go_upto_region 9 with fail
  refine abs_at (fun y => RLinkAt y b (x.tick now) ∧ MsgIn y g off 1 s o ∧ KeepsBut b w y) ⟨obj_set hg 5 _, MsgIn.other hm (KeepsBut.set (KeepsBut.refl _ _) _ _) hne, KeepsBut.set (KeepsBut.refl _ _) _ _⟩ ?_
  clear hg hm m0 m1 m2 k5 f5
  rintro wx ⟨hg, ⟨m0, m1, m2⟩, kk⟩
  have hm : MsgIn wx g off 1 s o := ⟨m0, m1, m2⟩
  have k0 := obj_cell hg (k := 0) rfl
  have k1 := obj_cell hg (k := 1) rfl
  have k2 := obj_cell hg (k := 2) rfl
  have k3 := obj_cell hg (k := 3) rfl
  have k4 := obj_cell hg (k := 4) rfl
  have f1 := obj_free hg 1
  have f2 := obj_free hg 2
  have f3 := obj_free hg 3
  have f4 := obj_free hg 4
  simp only [Pl.Lk.tick] at k0 k1 k2 k3 k4
  go_wp2_with fail
  go_quiet (fail)
  go_wp2_with fail
  go_quiet (fail)
  go_wp2_with fail
  go_ret2
  exact ⟨rfl, hg, by repeat (first | exact kk | refine Keeps.drewN ?_ _)⟩

set_option maxRecDepth 100000 in
set_option maxHeartbeats 2000000 in
theorem rlHear_1warm (b g off c : Nat) (x : Pl.Lk) (now s o : Int) (hc : Pl.clockOk x.now now) (hd : (x.state == 2) = true) (hl : decide (s < x.other) = false) (hmsg : Pl.msgOk 1 s o) (w : World) (hg : RLinkAt w b x) (hm : MsgIn w g off 1 s o) (hne : g ≠ b) :
    Calls Tryd.prog 35 #[.pointer (some ⟨b, 0, none⟩), .slice (some ⟨g, off, none⟩) 3 c, .int .i64 now] w fun e w' => ∃ g', e = .returned (.tuple #[.slice (some ⟨g', 0, none⟩) 3 3, .int .i64 0]) ∧ w.heap.size ≤ g' ∧ MsgAt w' g' 2 x.me s ∧ RLinkAt w' b (x.warm now s now) ∧ KeepsBut b w w' := by
  have hm0 := hm
  obtain ⟨m0, m1, m2⟩ := hm0
  have k5 := obj_cell hg (k := 5) rfl
  have f5 := obj_free hg 5
  obtain ⟨h1, h2, h3, h4, h5, h6⟩ := hmsg
  go_enter Tryd.func35, Tryd.ntmps35
  go_wp2_with fail
  refine (rlTime_ok b x now hc _ hg).mono ?_
  rintro e w' ⟨rfl, rfl⟩
  go_upto_region 9 with fail
  refine abs_at (fun y => RLinkAt y b (x.tick now) ∧ MsgIn y g off 1 s o ∧ KeepsBut b w y) ⟨obj_set hg 5 _, MsgIn.other hm (KeepsBut.set (KeepsBut.refl _ _) _ _) hne, KeepsBut.set (KeepsBut.refl _ _) _ _⟩ ?_
  clear hg hm m0 m1 m2 k5 f5
  rintro wx ⟨hg, ⟨m0, m1, m2⟩, kk⟩
  have hm : MsgIn wx g off 1 s o := ⟨m0, m1, m2⟩
  have k0 := obj_cell hg (k := 0) rfl
  have k1 := obj_cell hg (k := 1) rfl
  have k2 := obj_cell hg (k := 2) rfl
  have k3 := obj_cell hg (k := 3) rfl
  have k4 := obj_cell hg (k := 4) rfl
  have f1 := obj_free hg 1
  have f2 := obj_free hg 2
  have f3 := obj_free hg 3
  have f4 := obj_free hg 4
  simp only [Pl.Lk.tick] at k0 k1 k2 k3 k4
  go_wp2_with fail
  go_quiet (fail)
  go_wp2_with fail
  go_quiet (fail)
  go_wp2_with fail
  go_upto_region 20 with fail
  refine abs_at (fun y => RLinkAt y b (x.warm now s now) ∧ KeepsBut b w y) ⟨obj_set (obj_set (obj_set (obj_set hg 2 _) 1 _) 3 _) 4 _, KeepsBut.set (KeepsBut.set (KeepsBut.set (KeepsBut.set (by repeat (first | exact kk | refine Keeps.drewN ?_ _)) _ _) _ _) _ _) _ _⟩ ?_
  clear hg hm kk m0 m1 m2 k0 k1 k2 k3 k4 f1 f2 f3 f4
  rintro wy ⟨hg, kk⟩
  have k0 := obj_cell hg (k := 0) rfl
  have k1 := obj_cell hg (k := 1) rfl
  simp only [Pl.Lk.warm] at k0 k1
  go_wp2
  go_region
  go_wp2
  go_ret2
  exact ⟨_, rfl, kk.size, MsgAt.new wy 2 x.me s 1, obj_old hg _, Keeps.drew (Keeps.alloc kk _)⟩

set_option maxRecDepth 100000 in
set_option maxHeartbeats 2000000 in
theorem rlHear_2cold (b g off c : Nat) (x : Pl.Lk) (now s o : Int) (hc : Pl.clockOk x.now now) (hd : (x.state == 2) = false) (ho : (o == x.me) = true) (hmsg : Pl.msgOk 2 s o) (w : World) (hg : RLinkAt w b x) (hm : MsgIn w g off 2 s o) (hne : g ≠ b) :
    Calls Tryd.prog 35 #[.pointer (some ⟨b, 0, none⟩), .slice (some ⟨g, off, none⟩) 3 c, .int .i64 now] w fun e w' => ∃ g', e = .returned (.tuple #[.slice (some ⟨g', 0, none⟩) 3 3, .int .i64 0]) ∧ w.heap.size ≤ g' ∧ MsgAt w' g' 3 x.me s ∧ RLinkAt w' b (x.warm now s now) ∧ KeepsBut b w w' := by
  have hm0 := hm
  obtain ⟨m0, m1, m2⟩ := hm0
  have k5 := obj_cell hg (k := 5) rfl
  have f5 := obj_free hg 5
  obtain ⟨h1, h2, h3, h4, h5, h6⟩ := hmsg
  go_enter Tryd.func35, Tryd.ntmps35
  go_wp2_with fail
  refine (rlTime_ok b x now hc _ hg).mono ?_
  rintro e w' ⟨rfl, rfl⟩
  go_upto_region 9 with fail
  refine abs_at (fun y => RLinkAt y b (x.tick now) ∧ MsgIn y g off 2 s o ∧ KeepsBut b w y) ⟨obj_set hg 5 _, MsgIn.other hm (KeepsBut.set (KeepsBut.refl _ _) _ _) hne, KeepsBut.set (KeepsBut.refl _ _) _ _⟩ ?_
  clear hg hm m0 m1 m2 k5 f5
  rintro wx ⟨hg, ⟨m0, m1, m2⟩, kk⟩
  have hm : MsgIn wx g off 2 s o := ⟨m0, m1, m2⟩
  have k0 := obj_cell hg (k := 0) rfl
  have k1 := obj_cell hg (k := 1) rfl
  have k2 := obj_cell hg (k := 2) rfl
  have k3 := obj_cell hg (k := 3) rfl
  have k4 := obj_cell hg (k := 4) rfl
  have f1 := obj_free hg 1
  have f2 := obj_free hg 2
  have f3 := obj_free hg 3
  have f4 := obj_free hg 4
  simp only [Pl.Lk.tick] at k0 k1 k2 k3 k4
  go_wp2_with fail
  go_quiet (fail)
  go_wp2_with fail
  go_quiet (fail)
  go_wp2_with fail
  refine abs_at (fun y => RLinkAt y b (x.tick now) ∧ MsgIn y g off 2 s o ∧ KeepsBut b w y) ⟨hg, ⟨m0, m1, m2⟩, (by repeat (first | exact kk | refine Keeps.drewN ?_ _))⟩ ?_
  clear hg hm kk m0 m1 m2 k0 k1 k2 k3 k4 f1 f2 f3 f4
  rintro wz ⟨hg, ⟨m0, m1, m2⟩, kk⟩
  have hm : MsgIn wz g off 2 s o := ⟨m0, m1, m2⟩
  have k0 := obj_cell hg (k := 0) rfl
  have k1 := obj_cell hg (k := 1) rfl
  have k2 := obj_cell hg (k := 2) rfl
  have k3 := obj_cell hg (k := 3) rfl
  have k4 := obj_cell hg (k := 4) rfl
  have f1 := obj_free hg 1
  have f2 := obj_free hg 2
  have f3 := obj_free hg 3
  have f4 := obj_free hg 4
  have ho2 : (o != x.me) = false := by simp [bne, ho]
  simp only [Pl.Lk.tick] at k0 k1 k2 k3 k4
  go_quiet (fail)
  go_upto_region 30 with fail
  refine abs_at (fun y => RLinkAt y b (x.warm now s now) ∧ KeepsBut b w y) ⟨obj_set (obj_set (obj_set (obj_set hg 2 _) 1 _) 3 _) 4 _, KeepsBut.set (KeepsBut.set (KeepsBut.set (KeepsBut.set (by repeat (first | exact kk | refine Keeps.drewN ?_ _)) _ _) _ _) _ _) _ _⟩ ?_
  clear hg hm kk m0 m1 m2 k0 k1 k2 k3 k4 f1 f2 f3 f4
  rintro wy ⟨hg, kk⟩
  have k0 := obj_cell hg (k := 0) rfl
  have k1 := obj_cell hg (k := 1) rfl
  simp only [Pl.Lk.warm] at k0 k1
  go_wp2
  go_region
  go_wp2
  go_ret2
  exact ⟨_, rfl, kk.size, MsgAt.new wy 3 x.me s 1, obj_old hg _, Keeps.drew (Keeps.alloc kk _)⟩

set_option maxRecDepth 100000 in
set_option maxHeartbeats 2000000 in
theorem rlHear_2not0 (b g off c : Nat) (x : Pl.Lk) (now s o : Int) (hc : Pl.clockOk x.now now) (hd : (x.state == 2) = false) (ho : (o == x.me) = false) (hmsg : Pl.msgOk 2 s o) (w : World) (hg : RLinkAt w b x) (hm : MsgIn w g off 2 s o) (hne : g ≠ b) :
    Calls Tryd.prog 35 #[.pointer (some ⟨b, 0, none⟩), .slice (some ⟨g, off, none⟩) 3 c, .int .i64 now] w fun e w' => e = .returned (.tuple #[.slice none 0 0, .int .i64 0]) ∧ RLinkAt w' b (x.tick now) ∧ KeepsBut b w w' := by
  have hm0 := hm
  obtain ⟨m0, m1, m2⟩ := hm0
  have k5 := obj_cell hg (k := 5) rfl
  have f5 := obj_free hg 5
  obtain ⟨h1, h2, h3, h4, h5, h6⟩ := hmsg
  go_enter Tryd.func35, Tryd.ntmps35
  go_wp2_with fail
  refine (rlTime_ok b x now hc _ hg).mono ?_
  rintro e w' ⟨rfl, rfl⟩
  go_upto_region 9 with fail
  refine abs_at (fun y => RLinkAt y b (x.tick now) ∧ MsgIn y g off 2 s o ∧ KeepsBut b w y) ⟨obj_set hg 5 _, MsgIn.other hm (KeepsBut.set (KeepsBut.refl _ _) _ _) hne, KeepsBut.set (KeepsBut.refl _ _) _ _⟩ ?_
  clear hg hm m0 m1 m2 k5 f5
  rintro wx ⟨hg, ⟨m0, m1, m2⟩, kk⟩
  have hm : MsgIn wx g off 2 s o := ⟨m0, m1, m2⟩
  have k0 := obj_cell hg (k := 0) rfl
  have k1 := obj_cell hg (k := 1) rfl
  have k2 := obj_cell hg (k := 2) rfl
  have k3 := obj_cell hg (k := 3) rfl
  have k4 := obj_cell hg (k := 4) rfl
  have f1 := obj_free hg 1
  have f2 := obj_free hg 2
  have f3 := obj_free hg 3
  have f4 := obj_free hg 4
  simp only [Pl.Lk.tick] at k0 k1 k2 k3 k4
  go_wp2_with fail
  go_quiet (fail)
  go_wp2_with fail
  go_quiet (fail)
  go_wp2_with fail
  refine abs_at (fun y => RLinkAt y b (x.tick now) ∧ MsgIn y g off 2 s o ∧ KeepsBut b w y) ⟨hg, ⟨m0, m1, m2⟩, (by repeat (first | exact kk | refine Keeps.drewN ?_ _))⟩ ?_
  clear hg hm kk m0 m1 m2 k0 k1 k2 k3 k4 f1 f2 f3 f4
  rintro wz ⟨hg, ⟨m0, m1, m2⟩, kk⟩
  have hm : MsgIn wz g off 2 s o := ⟨m0, m1, m2⟩
  have k0 := obj_cell hg (k := 0) rfl
  have k1 := obj_cell hg (k := 1) rfl
  have k2 := obj_cell hg (k := 2) rfl
  have k3 := obj_cell hg (k := 3) rfl
  have k4 := obj_cell hg (k := 4) rfl
  have f1 := obj_free hg 1
  have f2 := obj_free hg 2
  have f3 := obj_free hg 3
  have f4 := obj_free hg 4
  have ho2 : (o != x.me) = true := by simp [bne, ho]
  simp only [Pl.Lk.tick] at k0 k1 k2 k3 k4
  go_quiet (fail)
  go_wp2
  go_ret2
  exact ⟨rfl, hg, by repeat (first | exact kk | refine Keeps.drewN ?_ _)⟩

set_option maxRecDepth 100000 in
set_option maxHeartbeats 2000000 in
theorem rlHear_2not1 (b g off c : Nat) (x : Pl.Lk) (now s o : Int) (hc : Pl.clockOk x.now now) (hd : (x.state == 2) = true) (ho : (o == x.me) = false) (hmsg : Pl.msgOk 2 s o) (w : World) (hg : RLinkAt w b x) (hm : MsgIn w g off 2 s o) (hne : g ≠ b) :
    Calls Tryd.prog 35 #[.pointer (some ⟨b, 0, none⟩), .slice (some ⟨g, off, none⟩) 3 c, .int .i64 now] w fun e w' => e = .returned (.tuple #[.slice none 0 0, .int .i64 0]) ∧ RLinkAt w' b (x.tick now) ∧ KeepsBut b w w' := by
  have hm0 := hm
  obtain ⟨m0, m1, m2⟩ := hm0
  have k5 := obj_cell hg (k := 5) rfl
  have f5 := obj_free hg 5
  obtain ⟨h1, h2, h3, h4, h5, h6⟩ := hmsg
  go_enter Tryd.func35, Tryd.ntmps35
  go_wp2_with fail
  refine (rlTime_ok b x now hc _ hg).mono ?_
  rintro e w' ⟨rfl, rfl⟩
  go_upto_region 9 with fail
  refine abs_at (fun y => RLinkAt y b (x.tick now) ∧ MsgIn y g off 2 s o ∧ KeepsBut b w y) ⟨obj_set hg 5 _, MsgIn.other hm (KeepsBut.set (KeepsBut.refl _ _) _ _) hne, KeepsBut.set (KeepsBut.refl _ _) _ _⟩ ?_
  clear hg hm m0 m1 m2 k5 f5
  rintro wx ⟨hg, ⟨m0, m1, m2⟩, kk⟩
  have hm : MsgIn wx g off 2 s o := ⟨m0, m1, m2⟩
  have k0 := obj_cell hg (k := 0) rfl
  have k1 := obj_cell hg (k := 1) rfl
  have k2 := obj_cell hg (k := 2) rfl
  have k3 := obj_cell hg (k := 3) rfl
  have k4 := obj_cell hg (k := 4) rfl
  have f1 := obj_free hg 1
  have f2 := obj_free hg 2
  have f3 := obj_free hg 3
  have f4 := obj_free hg 4
  simp only [Pl.Lk.tick] at k0 k1 k2 k3 k4
  go_wp2_with fail
  go_quiet (fail)
  go_wp2_with fail
  go_quiet (fail)
  go_wp2_with fail
  refine abs_at (fun y => RLinkAt y b (x.tick now) ∧ MsgIn y g off 2 s o ∧ KeepsBut b w y) ⟨hg, ⟨m0, m1, m2⟩, (by repeat (first | exact kk | refine Keeps.drewN ?_ _))⟩ ?_
  clear hg hm kk m0 m1 m2 k0 k1 k2 k3 k4 f1 f2 f3 f4
  rintro wz ⟨hg, ⟨m0, m1, m2⟩, kk⟩
  have hm : MsgIn wz g off 2 s o := ⟨m0, m1, m2⟩
  have k0 := obj_cell hg (k := 0) rfl
  have k1 := obj_cell hg (k := 1) rfl
  have k2 := obj_cell hg (k := 2) rfl
  have k3 := obj_cell hg (k := 3) rfl
  have k4 := obj_cell hg (k := 4) rfl
  have f1 := obj_free hg 1
  have f2 := obj_free hg 2
  have f3 := obj_free hg 3
  have f4 := obj_free hg 4
  have ho2 : (o != x.me) = true := by simp [bne, ho]
  simp only [Pl.Lk.tick] at k0 k1 k2 k3 k4
  go_quiet (fail)
  go_wp2
  go_ret2
  exact ⟨rfl, hg, by repeat (first | exact kk | refine Keeps.drewN ?_ _)⟩

set_option maxRecDepth 100000 in
set_option maxHeartbeats 2000000 in
theorem rlHear_2old (b g off c : Nat) (x : Pl.Lk) (now s o : Int) (hc : Pl.clockOk x.now now) (hd : (x.state == 2) = true) (ho : (o == x.me) = true) (hl : decide (s < x.other) = true) (hmsg : Pl.msgOk 2 s o) (w : World) (hg : RLinkAt w b x) (hm : MsgIn w g off 2 s o) (hne : g ≠ b) :
    Calls Tryd.prog 35 #[.pointer (some ⟨b, 0, none⟩), .slice (some ⟨g, off, none⟩) 3 c, .int .i64 now] w fun e w' => e = .returned (.tuple #[.slice none 0 0, .int .i64 0]) ∧ RLinkAt w' b (x.tick now) ∧ KeepsBut b w w' := by
  have hm0 := hm
  obtain ⟨m0, m1, m2⟩ := hm0
  have k5 := obj_cell hg (k := 5) rfl
  have f5 := obj_free hg 5
  obtain ⟨h1, h2, h3, h4, h5, h6⟩ := hmsg
  go_enter Tryd.func35, Tryd.ntmps35
  go_wp2_with fail
  refine (rlTime_ok b x now hc _ hg).mono ?_
  rintro e w' ⟨rfl, rfl⟩
  go_upto_region 9 with fail
  refine abs_at (fun y => RLinkAt y b (x.tick now) ∧ MsgIn y g off 2 s o ∧ KeepsBut b w y) ⟨obj_set hg 5 _, MsgIn.other hm (KeepsBut.set (KeepsBut.refl _ _) _ _) hne, KeepsBut.set (KeepsBut.refl _ _) _ _⟩ ?_
  clear hg hm m0 m1 m2 k5 f5
  rintro wx ⟨hg, ⟨m0, m1, m2⟩, kk⟩
  have hm : MsgIn wx g off 2 s o := ⟨m0, m1, m2⟩
  have k0 := obj_cell hg (k := 0) rfl
  have k1 := obj_cell hg (k := 1) rfl
  have k2 := obj_cell hg (k := 2) rfl
  have k3 := obj_cell hg (k := 3) rfl
  have k4 := obj_cell hg (k := 4) rfl
  have f1 := obj_free hg 1
  have f2 := obj_free hg 2
  have f3 := obj_free hg 3
  have f4 := obj_free hg 4
  simp only [Pl.Lk.tick] at k0 k1 k2 k3 k4
  go_wp2_with fail
  go_quiet (fail)
  go_wp2_with fail
  go_quiet (fail)
  go_wp2_with fail
  refine abs_at (fun y => RLinkAt y b (x.tick now) ∧ MsgIn y g off 2 s o ∧ KeepsBut b w y) ⟨hg, ⟨m0, m1, m2⟩, (by repeat (first | exact kk | refine Keeps.drewN ?_ _))⟩ ?_
  clear hg hm kk m0 m1 m2 k0 k1 k2 k3 k4 f1 f2 f3 f4
  rintro wz ⟨hg, ⟨m0, m1, m2⟩, kk⟩
  have hm : MsgIn wz g off 2 s o := ⟨m0, m1, m2⟩
  have k0 := obj_cell hg (k := 0) rfl
  have k1 := obj_cell hg (k := 1) rfl
  have k2 := obj_cell hg (k := 2) rfl
  have k3 := obj_cell hg (k := 3) rfl
  have k4 := obj_cell hg (k := 4) rfl
  have f1 := obj_free hg 1
  have f2 := obj_free hg 2
  have f3 := obj_free hg 3
  have f4 := obj_free hg 4
  have ho2 : (o != x.me) = false := by simp [bne, ho]
  simp only [Pl.Lk.tick] at k0 k1 k2 k3 k4
  go_quiet (fail)
  go_wp2
  go_ret2
  exact ⟨rfl, hg, by repeat (first | exact kk | refine Keeps.drewN ?_ _)⟩

set_option maxRecDepth 100000 in
set_option maxHeartbeats 2000000 in
theorem rlHear_2same (b g off c : Nat) (x : Pl.Lk) (now s o : Int) (hc : Pl.clockOk x.now now) (hd : (x.state == 2) = true) (ho : (o == x.me) = true) (hl : decide (s < x.other) = false) (he : (s == x.other) = true) (hmsg : Pl.msgOk 2 s o) (w : World) (hg : RLinkAt w b x) (hm : MsgIn w g off 2 s o) (hne : g ≠ b) :
    Calls Tryd.prog 35 #[.pointer (some ⟨b, 0, none⟩), .slice (some ⟨g, off, none⟩) 3 c, .int .i64 now] w fun e w' => e = .returned (.tuple #[.slice none 0 0, .int .i64 0]) ∧ RLinkAt w' b (x.warm now s x.sent) ∧ KeepsBut b w w' := by
  have hm0 := hm
  obtain ⟨m0, m1, m2⟩ := hm0
  have k5 := obj_cell hg (k := 5) rfl
  have f5 := obj_free hg 5
  obtain ⟨h1, h2, h3, h4, h5, h6⟩ := hmsg
  go_enter Tryd.func35, Tryd.ntmps35
  go_wp2_with fail
  refine (rlTime_ok b x now hc _ hg).mono ?_
  rintro e w' ⟨rfl, rfl⟩
  go_upto_region 9 with fail
  refine abs_at (fun y => RLinkAt y b (x.tick now) ∧ MsgIn y g off 2 s o ∧ KeepsBut b w y) ⟨obj_set hg 5 _, MsgIn.other hm (KeepsBut.set (KeepsBut.refl _ _) _ _) hne, KeepsBut.set (KeepsBut.refl _ _) _ _⟩ ?_
  clear hg hm m0 m1 m2 k5 f5
  rintro wx ⟨hg, ⟨m0, m1, m2⟩, kk⟩
  have hm : MsgIn wx g off 2 s o := ⟨m0, m1, m2⟩
  have k0 := obj_cell hg (k := 0) rfl
  have k1 := obj_cell hg (k := 1) rfl
  have k2 := obj_cell hg (k := 2) rfl
  have k3 := obj_cell hg (k := 3) rfl
  have k4 := obj_cell hg (k := 4) rfl
  have f1 := obj_free hg 1
  have f2 := obj_free hg 2
  have f3 := obj_free hg 3
  have f4 := obj_free hg 4
  simp only [Pl.Lk.tick] at k0 k1 k2 k3 k4
  go_wp2_with fail
  go_quiet (fail)
  go_wp2_with fail
  go_quiet (fail)
  go_wp2_with fail
  refine abs_at (fun y => RLinkAt y b (x.tick now) ∧ MsgIn y g off 2 s o ∧ KeepsBut b w y) ⟨hg, ⟨m0, m1, m2⟩, (by repeat (first | exact kk | refine Keeps.drewN ?_ _))⟩ ?_
  clear hg hm kk m0 m1 m2 k0 k1 k2 k3 k4 f1 f2 f3 f4
  rintro wz ⟨hg, ⟨m0, m1, m2⟩, kk⟩
  have hm : MsgIn wz g off 2 s o := ⟨m0, m1, m2⟩
  have k0 := obj_cell hg (k := 0) rfl
  have k1 := obj_cell hg (k := 1) rfl
  have k2 := obj_cell hg (k := 2) rfl
  have k3 := obj_cell hg (k := 3) rfl
  have k4 := obj_cell hg (k := 4) rfl
  have f1 := obj_free hg 1
  have f2 := obj_free hg 2
  have f3 := obj_free hg 3
  have f4 := obj_free hg 4
  have ho2 : (o != x.me) = false := by simp [bne, ho]
  simp only [Pl.Lk.tick] at k0 k1 k2 k3 k4
  go_quiet (fail)
  go_wp2
  go_ret2
  exact ⟨rfl, obj_set (obj_set (obj_set hg 2 _) 1 _) 3 _, KeepsBut.set (KeepsBut.set (KeepsBut.set (by repeat (first | exact kk | refine Keeps.drewN ?_ _)) _ _) _ _) _ _⟩

set_option maxRecDepth 100000 in
set_option maxHeartbeats 2000000 in
theorem rlHear_2new (b g off c : Nat) (x : Pl.Lk) (now s o : Int) (hc : Pl.clockOk x.now now) (hd : (x.state == 2) = true) (ho : (o == x.me) = true) (hl : decide (s < x.other) = false) (he : (s == x.other) = false) (hmsg : Pl.msgOk 2 s o) (w : World) (hg : RLinkAt w b x) (hm : MsgIn w g off 2 s o) (hne : g ≠ b) :
    Calls Tryd.prog 35 #[.pointer (some ⟨b, 0, none⟩), .slice (some ⟨g, off, none⟩) 3 c, .int .i64 now] w fun e w' => ∃ g', e = .returned (.tuple #[.slice (some ⟨g', 0, none⟩) 3 3, .int .i64 0]) ∧ w.heap.size ≤ g' ∧ MsgAt w' g' 3 x.me s ∧ RLinkAt w' b (x.warm now s now) ∧ KeepsBut b w w' := by
  have hm0 := hm
  obtain ⟨m0, m1, m2⟩ := hm0
  have k5 := obj_cell hg (k := 5) rfl
  have f5 := obj_free hg 5
  obtain ⟨h1, h2, h3, h4, h5, h6⟩ := hmsg
  go_enter Tryd.func35, Tryd.ntmps35
  go_wp2_with fail
  refine (rlTime_ok b x now hc _ hg).mono ?_
  rintro e w' ⟨rfl, rfl⟩
  go_upto_region 9 with fail
  refine abs_at (fun y => RLinkAt y b (x.tick now) ∧ MsgIn y g off 2 s o ∧ KeepsBut b w y) ⟨obj_set hg 5 _, MsgIn.other hm (KeepsBut.set (KeepsBut.refl _ _) _ _) hne, KeepsBut.set (KeepsBut.refl _ _) _ _⟩ ?_
  clear hg hm m0 m1 m2 k5 f5
  rintro wx ⟨hg, ⟨m0, m1, m2⟩, kk⟩
  have hm : MsgIn wx g off 2 s o := ⟨m0, m1, m2⟩
  have k0 := obj_cell hg (k := 0) rfl
  have k1 := obj_cell hg (k := 1) rfl
  have k2 := obj_cell hg (k := 2) rfl
  have k3 := obj_cell hg (k := 3) rfl
  have k4 := obj_cell hg (k := 4) rfl
  have f1 := obj_free hg 1
  have f2 := obj_free hg 2
  have f3 := obj_free hg 3
  have f4 := obj_free hg 4
  simp only [Pl.Lk.tick] at k0 k1 k2 k3 k4
  go_wp2_with fail
  go_quiet (fail)
  go_wp2_with fail
  go_quiet (fail)
  go_wp2_with fail
  refine abs_at (fun y => RLinkAt y b (x.tick now) ∧ MsgIn y g off 2 s o ∧ KeepsBut b w y) ⟨hg, ⟨m0, m1, m2⟩, (by repeat (first | exact kk | refine Keeps.drewN ?_ _))⟩ ?_
  clear hg hm kk m0 m1 m2 k0 k1 k2 k3 k4 f1 f2 f3 f4
  rintro wz ⟨hg, ⟨m0, m1, m2⟩, kk⟩
  have hm : MsgIn wz g off 2 s o := ⟨m0, m1, m2⟩
  have k0 := obj_cell hg (k := 0) rfl
  have k1 := obj_cell hg (k := 1) rfl
  have k2 := obj_cell hg (k := 2) rfl
  have k3 := obj_cell hg (k := 3) rfl
  have k4 := obj_cell hg (k := 4) rfl
  have f1 := obj_free hg 1
  have f2 := obj_free hg 2
  have f3 := obj_free hg 3
  have f4 := obj_free hg 4
  have ho2 : (o != x.me) = false := by simp [bne, ho]
  simp only [Pl.Lk.tick] at k0 k1 k2 k3 k4
  go_quiet (fail)
  go_upto_region 30 with fail
  refine abs_at (fun y => RLinkAt y b (x.warm now s now) ∧ KeepsBut b w y) ⟨obj_set (obj_set (obj_set (obj_set hg 2 _) 1 _) 3 _) 4 _, KeepsBut.set (KeepsBut.set (KeepsBut.set (KeepsBut.set (by repeat (first | exact kk | refine Keeps.drewN ?_ _)) _ _) _ _) _ _) _ _⟩ ?_
  clear hg hm kk m0 m1 m2 k0 k1 k2 k3 k4 f1 f2 f3 f4
  rintro wy ⟨hg, kk⟩
  have k0 := obj_cell hg (k := 0) rfl
  have k1 := obj_cell hg (k := 1) rfl
  simp only [Pl.Lk.warm] at k0 k1
  go_wp2
  go_region
  go_wp2
  go_ret2
  exact ⟨_, rfl, kk.size, MsgAt.new wy 3 x.me s 1, obj_old hg _, Keeps.drew (Keeps.alloc kk _)⟩

set_option maxRecDepth 100000 in
set_option maxHeartbeats 2000000 in
theorem rlHear_3not0 (b g off c : Nat) (x : Pl.Lk) (now s o : Int) (hc : Pl.clockOk x.now now) (hd : (x.state == 2) = false) (ho : (o == x.me) = false) (hmsg : Pl.msgOk 3 s o) (w : World) (hg : RLinkAt w b x) (hm : MsgIn w g off 3 s o) (hne : g ≠ b) :
    Calls Tryd.prog 35 #[.pointer (some ⟨b, 0, none⟩), .slice (some ⟨g, off, none⟩) 3 c, .int .i64 now] w fun e w' => e = .returned (.tuple #[.slice none 0 0, .int .i64 0]) ∧ RLinkAt w' b (x.tick now) ∧ KeepsBut b w w' := by
  have hm0 := hm
  obtain ⟨m0, m1, m2⟩ := hm0
  have k5 := obj_cell hg (k := 5) rfl
  have f5 := obj_free hg 5
  obtain ⟨h1, h2, h3, h4, h5, h6⟩ := hmsg
  go_enter Tryd.func35, Tryd.ntmps35
  go_wp2_with fail
  refine (rlTime_ok b x now hc _ hg).mono ?_
  rintro e w' ⟨rfl, rfl⟩
  go_upto_region 9 with fail
  refine abs_at (fun y => RLinkAt y b (x.tick now) ∧ MsgIn y g off 3 s o ∧ KeepsBut b w y) ⟨obj_set hg 5 _, MsgIn.other hm (KeepsBut.set (KeepsBut.refl _ _) _ _) hne, KeepsBut.set (KeepsBut.refl _ _) _ _⟩ ?_
  clear hg hm m0 m1 m2 k5 f5
  rintro wx ⟨hg, ⟨m0, m1, m2⟩, kk⟩
  have hm : MsgIn wx g off 3 s o := ⟨m0, m1, m2⟩
  have k0 := obj_cell hg (k := 0) rfl
  have k1 := obj_cell hg (k := 1) rfl
  have k2 := obj_cell hg (k := 2) rfl
  have k3 := obj_cell hg (k := 3) rfl
  have k4 := obj_cell hg (k := 4) rfl
  have f1 := obj_free hg 1
  have f2 := obj_free hg 2
  have f3 := obj_free hg 3
  have f4 := obj_free hg 4
  simp only [Pl.Lk.tick] at k0 k1 k2 k3 k4
  go_wp2_with fail
  go_quiet (fail)
  go_wp2_with fail
  go_quiet (fail)
  go_wp2_with fail
  go_quiet (fail)
  go_wp2
  go_ret2
  exact ⟨rfl, hg, by repeat (first | exact kk | refine Keeps.drewN ?_ _)⟩

set_option maxRecDepth 100000 in
set_option maxHeartbeats 2000000 in
theorem rlHear_3not1 (b g off c : Nat) (x : Pl.Lk) (now s o : Int) (hc : Pl.clockOk x.now now) (hd : (x.state == 2) = true) (ho : (o == x.me) = false) (hmsg : Pl.msgOk 3 s o) (w : World) (hg : RLinkAt w b x) (hm : MsgIn w g off 3 s o) (hne : g ≠ b) :
    Calls Tryd.prog 35 #[.pointer (some ⟨b, 0, none⟩), .slice (some ⟨g, off, none⟩) 3 c, .int .i64 now] w fun e w' => e = .returned (.tuple #[.slice none 0 0, .int .i64 0]) ∧ RLinkAt w' b (x.tick now) ∧ KeepsBut b w w' := by
  have hm0 := hm
  obtain ⟨m0, m1, m2⟩ := hm0
  have k5 := obj_cell hg (k := 5) rfl
  have f5 := obj_free hg 5
  obtain ⟨h1, h2, h3, h4, h5, h6⟩ := hmsg
  go_enter Tryd.func35, Tryd.ntmps35
  go_wp2_with fail
  refine (rlTime_ok b x now hc _ hg).mono ?_
  rintro e w' ⟨rfl, rfl⟩
  go_upto_region 9 with fail
  refine abs_at (fun y => RLinkAt y b (x.tick now) ∧ MsgIn y g off 3 s o ∧ KeepsBut b w y) ⟨obj_set hg 5 _, MsgIn.other hm (KeepsBut.set (KeepsBut.refl _ _) _ _) hne, KeepsBut.set (KeepsBut.refl _ _) _ _⟩ ?_
  clear hg hm m0 m1 m2 k5 f5
  rintro wx ⟨hg, ⟨m0, m1, m2⟩, kk⟩
  have hm : MsgIn wx g off 3 s o := ⟨m0, m1, m2⟩
  have k0 := obj_cell hg (k := 0) rfl
  have k1 := obj_cell hg (k := 1) rfl
  have k2 := obj_cell hg (k := 2) rfl
  have k3 := obj_cell hg (k := 3) rfl
  have k4 := obj_cell hg (k := 4) rfl
  have f1 := obj_free hg 1
  have f2 := obj_free hg 2
  have f3 := obj_free hg 3
  have f4 := obj_free hg 4
  simp only [Pl.Lk.tick] at k0 k1 k2 k3 k4
  go_wp2_with fail
  go_quiet (fail)
  go_wp2_with fail
  go_quiet (fail)
  go_wp2_with fail
  go_quiet (fail)
  go_wp2
  go_ret2
  exact ⟨rfl, hg, by repeat (first | exact kk | refine Keeps.drewN ?_ _)⟩

set_option maxRecDepth 100000 in
set_option maxHeartbeats 2000000 in
theorem rlHear_3cold (b g off c : Nat) (x : Pl.Lk) (now s o : Int) (hc : Pl.clockOk x.now now) (hd : (x.state == 2) = false) (ho : (o == x.me) = true) (hmsg : Pl.msgOk 3 s o) (w : World) (hg : RLinkAt w b x) (hm : MsgIn w g off 3 s o) (hne : g ≠ b) :
    Calls Tryd.prog 35 #[.pointer (some ⟨b, 0, none⟩), .slice (some ⟨g, off, none⟩) 3 c, .int .i64 now] w fun e w' => e = .returned (.tuple #[.slice none 0 0, .int .i64 0]) ∧ RLinkAt w' b (x.tick now) ∧ KeepsBut b w w' := by
  have hm0 := hm
  obtain ⟨m0, m1, m2⟩ := hm0
  have k5 := obj_cell hg (k := 5) rfl
  have f5 := obj_free hg 5
  obtain ⟨h1, h2, h3, h4, h5, h6⟩ := hmsg
  go_enter Tryd.func35, Tryd.ntmps35
  go_wp2_with fail
  refine (rlTime_ok b x now hc _ hg).mono ?_
  rintro e w' ⟨rfl, rfl⟩
  go_upto_region 9 with fail
  refine abs_at (fun y => RLinkAt y b (x.tick now) ∧ MsgIn y g off 3 s o ∧ KeepsBut b w y) ⟨obj_set hg 5 _, MsgIn.other hm (KeepsBut.set (KeepsBut.refl _ _) _ _) hne, KeepsBut.set (KeepsBut.refl _ _) _ _⟩ ?_
  clear hg hm m0 m1 m2 k5 f5
  rintro wx ⟨hg, ⟨m0, m1, m2⟩, kk⟩
  have hm : MsgIn wx g off 3 s o := ⟨m0, m1, m2⟩
  have k0 := obj_cell hg (k := 0) rfl
  have k1 := obj_cell hg (k := 1) rfl
  have k2 := obj_cell hg (k := 2) rfl
  have k3 := obj_cell hg (k := 3) rfl
  have k4 := obj_cell hg (k := 4) rfl
  have f1 := obj_free hg 1
  have f2 := obj_free hg 2
  have f3 := obj_free hg 3
  have f4 := obj_free hg 4
  simp only [Pl.Lk.tick] at k0 k1 k2 k3 k4
  go_wp2_with fail
  go_quiet (fail)
  go_wp2_with fail
  go_quiet (fail)
  go_wp2_with fail
  go_quiet (fail)
  go_wp2
  go_ret2
  exact ⟨rfl, hg, by repeat (first | exact kk | refine Keeps.drewN ?_ _)⟩

set_option maxRecDepth 100000 in
set_option maxHeartbeats 2000000 in
theorem rlHear_3other (b g off c : Nat) (x : Pl.Lk) (now s o : Int) (hc : Pl.clockOk x.now now) (hd : (x.state == 2) = true) (ho : (o == x.me) = true) (he : (s == x.other) = false) (hmsg : Pl.msgOk 3 s o) (w : World) (hg : RLinkAt w b x) (hm : MsgIn w g off 3 s o) (hne : g ≠ b) :
    Calls Tryd.prog 35 #[.pointer (some ⟨b, 0, none⟩), .slice (some ⟨g, off, none⟩) 3 c, .int .i64 now] w fun e w' => e = .returned (.tuple #[.slice none 0 0, .int .i64 0]) ∧ RLinkAt w' b (x.tick now) ∧ KeepsBut b w w' := by
  have hm0 := hm
  obtain ⟨m0, m1, m2⟩ := hm0
  have k5 := obj_cell hg (k := 5) rfl
  have f5 := obj_free hg 5
  obtain ⟨h1, h2, h3, h4, h5, h6⟩ := hmsg
  go_enter Tryd.func35, Tryd.ntmps35
  go_wp2_with fail
  refine (rlTime_ok b x now hc _ hg).mono ?_
  rintro e w' ⟨rfl, rfl⟩
  go_upto_region 9 with fail
  refine abs_at (fun y => RLinkAt y b (x.tick now) ∧ MsgIn y g off 3 s o ∧ KeepsBut b w y) ⟨obj_set hg 5 _, MsgIn.other hm (KeepsBut.set (KeepsBut.refl _ _) _ _) hne, KeepsBut.set (KeepsBut.refl _ _) _ _⟩ ?_
  clear hg hm m0 m1 m2 k5 f5
  rintro wx ⟨hg, ⟨m0, m1, m2⟩, kk⟩
  have hm : MsgIn wx g off 3 s o := ⟨m0, m1, m2⟩
  have k0 := obj_cell hg (k := 0) rfl
  have k1 := obj_cell hg (k := 1) rfl
  have k2 := obj_cell hg (k := 2) rfl
  have k3 := obj_cell hg (k := 3) rfl
  have k4 := obj_cell hg (k := 4) rfl
  have f1 := obj_free hg 1
  have f2 := obj_free hg 2
  have f3 := obj_free hg 3
  have f4 := obj_free hg 4
  simp only [Pl.Lk.tick] at k0 k1 k2 k3 k4
  go_wp2_with fail
  go_quiet (fail)
  go_wp2_with fail
  go_quiet (fail)
  go_wp2_with fail
  go_quiet (fail)
  go_wp2
  go_ret2
  exact ⟨rfl, hg, by repeat (first | exact kk | refine Keeps.drewN ?_ _)⟩

set_option maxRecDepth 100000 in
set_option maxHeartbeats 2000000 in
theorem rlHear_3same (b g off c : Nat) (x : Pl.Lk) (now s o : Int) (hc : Pl.clockOk x.now now) (hd : (x.state == 2) = true) (ho : (o == x.me) = true) (he : (s == x.other) = true) (hmsg : Pl.msgOk 3 s o) (w : World) (hg : RLinkAt w b x) (hm : MsgIn w g off 3 s o) (hne : g ≠ b) :
    Calls Tryd.prog 35 #[.pointer (some ⟨b, 0, none⟩), .slice (some ⟨g, off, none⟩) 3 c, .int .i64 now] w fun e w' => e = .returned (.tuple #[.slice none 0 0, .int .i64 0]) ∧ RLinkAt w' b (x.warm now s x.sent) ∧ KeepsBut b w w' := by
  have hm0 := hm
  obtain ⟨m0, m1, m2⟩ := hm0
  have k5 := obj_cell hg (k := 5) rfl
  have f5 := obj_free hg 5
  obtain ⟨h1, h2, h3, h4, h5, h6⟩ := hmsg
  go_enter Tryd.func35, Tryd.ntmps35
  go_wp2_with fail
  refine (rlTime_ok b x now hc _ hg).mono ?_
  rintro e w' ⟨rfl, rfl⟩
  go_upto_region 9 with fail
  refine abs_at (fun y => RLinkAt y b (x.tick now) ∧ MsgIn y g off 3 s o ∧ KeepsBut b w y) ⟨obj_set hg 5 _, MsgIn.other hm (KeepsBut.set (KeepsBut.refl _ _) _ _) hne, KeepsBut.set (KeepsBut.refl _ _) _ _⟩ ?_
  clear hg hm m0 m1 m2 k5 f5
  rintro wx ⟨hg, ⟨m0, m1, m2⟩, kk⟩
  have hm : MsgIn wx g off 3 s o := ⟨m0, m1, m2⟩
  have k0 := obj_cell hg (k := 0) rfl
  have k1 := obj_cell hg (k := 1) rfl
  have k2 := obj_cell hg (k := 2) rfl
  have k3 := obj_cell hg (k := 3) rfl
  have k4 := obj_cell hg (k := 4) rfl
  have f1 := obj_free hg 1
  have f2 := obj_free hg 2
  have f3 := obj_free hg 3
  have f4 := obj_free hg 4
  simp only [Pl.Lk.tick] at k0 k1 k2 k3 k4
  go_wp2_with fail
  go_quiet (fail)
  go_wp2_with fail
  go_quiet (fail)
  go_wp2_with fail
  go_quiet (fail)
  go_wp2
  go_ret2
  have d1 : x.state = 2 := by simpa using hd
  have d4 : s = x.other := by simpa using he
  have gl : RLinkAt _ b { x with now := now, heard := now } := obj_set hg 3 _
  rw [show x.warm now s x.sent = { x with now := now, heard := now } from by cases x; simp_all [Pl.Lk.warm]]
  exact ⟨rfl, gl, KeepsBut.set (by repeat (first | exact kk | refine Keeps.drewN ?_ _)) _ _⟩

end Go.Proofs.YtanmokomefdaiaaDoor
