import Derived.Test.YtanmokomefdaiaaLink
import Derived.Test.YtanmokomefdaiaaSlice
/-! link.Hear, way by way: a message anywhere in memory (printed by wip/tools/gen_linkany.py). -/
namespace Go.Proofs.Ytanmokomefdaiaa
open Go.RowKit
set_option linter.unusedVariables false
set_option linter.unusedSimpArgs false

/-- three numbers in memory, at off of block g -/
def MsgIn (w : World) (g off : Nat) (k s o : Int) : Prop := w.cell? ⟨g, off, none⟩ = some (.int .i64 k) ∧ w.cell? ⟨g, off + 1, none⟩ = some (.int .i64 s) ∧ w.cell? ⟨g, off + 2, none⟩ = some (.int .i64 o)
theorem MsgIn.other {a c : World} {g off N : Nat} {k s o : Int} (h : MsgIn a g off k s o) (kk : KeepsBut N a c) (hn : g ≠ N) : MsgIn c g off k s o :=
  ⟨(Keeps.cell kk (p := ⟨g, off, none⟩) (Sl.lt h.1) hn).trans h.1, (Keeps.cell kk (p := ⟨g, off + 1, none⟩) (Sl.lt h.2.1) hn).trans h.2.1, (Keeps.cell kk (p := ⟨g, off + 2, none⟩) (Sl.lt h.2.2) hn).trans h.2.2⟩
theorem LinkAt.drewN {w : World} {b : Nat} {x : Pl.Lk} (h : LinkAt w b x) (n : Nat) : LinkAt (w.drewN n) b x := h

set_option maxRecDepth 100000 in
set_option maxHeartbeats 1000000 in
theorem linkCheckIn_ok (g off c : Nat) (k s o : Int) (h : Pl.msgOk k s o) (w : World) (hm : MsgIn w g off k s o) :
    Calls Try.prog 35 #[.slice (some ⟨g, off, none⟩) 3 c] w fun e w' => e = .returned .nilIface ∧ w = w' := by
  obtain ⟨h1, h2, h3, h4, h5, h6⟩ := h
  obtain ⟨m0, m1, m2⟩ := hm
  go_enter Try.func35, Try.ntmps35
  go_wp2
  go_ret
  exact ⟨rfl, rfl⟩
set_option maxRecDepth 100000 in
set_option maxHeartbeats 1000000 in
theorem linkCheckIn_range (g off c : Nat) (k s o : Int) (h : ¬ Pl.msgOk k s o) (w : World) (hm : MsgIn w g off k s o) :
    Calls Try.prog 35 #[.slice (some ⟨g, off, none⟩) 3 c] w fun e w' => e = .returned (.iface 60 (.int .i64 1)) ∧ w = w' := by
  have G := Lib.hid h
  clear h
  obtain ⟨m0, m1, m2⟩ := hm
  go_enter Try.func35, Try.ntmps35
  go_wp2
  all_goals first
    | (exfalso; exact G.out ⟨by omega, by omega, by omega, by omega, by omega, by omega⟩)
    | (go_ret; exact ⟨rfl, rfl⟩)
set_option maxRecDepth 100000 in
set_option maxHeartbeats 1000000 in
theorem linkCheckIn_shape (oa : Option Addr) (n c : Nat) (h : n ≠ 3) (w : World) :
    Calls Try.prog 35 #[.slice oa n c] w fun e w' => e = .returned (.iface 60 (.int .i64 3)) ∧ w = w' := by
  go_enter Try.func35, Try.ntmps35
  go_wp2
  go_ret
  exact ⟨rfl, rfl⟩
/-- Hear at a wrong time -/
theorem linkHear_time (b : Nat) (x : Pl.Lk) (now : Int) (v : Value) (hc : ¬ Pl.clockOk x.now now) (w : World) (hg : LinkAt w b x) :
    Calls Try.prog 20 #[.pointer (some ⟨b, 0, none⟩), v, .int .i64 now] w fun e w' => e = .returned (.tuple #[.slice none 0 0, .iface 60 (.int .i64 (Pl.clockFault now))]) ∧ w = w' := by
  have k0 := obj_cell hg (k := 0) rfl
  go_enter Try.func20, Try.ntmps20
  go_wp2_with fail
  refine (clockCheck_bad b 0 x.now now hc _ k0).mono ?_
  rintro e w' ⟨rfl, rfl⟩
  go_wp2
  go_ret2
  exact ⟨rfl, rfl⟩
theorem linkHear_shape (b : Nat) (x : Pl.Lk) (now : Int) (oa : Option Addr) (n c : Nat) (hn : n ≠ 3) (hc : Pl.clockOk x.now now) (w : World) (hg : LinkAt w b x) :
    Calls Try.prog 20 #[.pointer (some ⟨b, 0, none⟩), .slice oa n c, .int .i64 now] w fun e w' => e = .returned (.tuple #[.slice none 0 0, .iface 60 (.int .i64 3)]) ∧ w = w' := by
  have k0 := obj_cell hg (k := 0) rfl
  go_enter Try.func20, Try.ntmps20
  go_wp2_with fail
  refine (clockCheck_ok b 0 x.now now hc _ k0).mono ?_
  rintro e w' ⟨rfl, rfl⟩
  go_wp2_with fail
  refine (linkCheckIn_shape oa n c hn _).mono ?_
  rintro e w' ⟨rfl, rfl⟩
  go_wp2
  go_ret2
  exact ⟨rfl, rfl⟩
theorem linkHear_range (b g off c : Nat) (x : Pl.Lk) (now k s o : Int) (h : ¬ Pl.msgOk k s o) (hc : Pl.clockOk x.now now) (w : World) (hg : LinkAt w b x) (hm : MsgIn w g off k s o) :
    Calls Try.prog 20 #[.pointer (some ⟨b, 0, none⟩), .slice (some ⟨g, off, none⟩) 3 c, .int .i64 now] w fun e w' => e = .returned (.tuple #[.slice none 0 0, .iface 60 (.int .i64 1)]) ∧ w = w' := by
  have k0 := obj_cell hg (k := 0) rfl
  go_enter Try.func20, Try.ntmps20
  go_wp2_with fail
  refine (clockCheck_ok b 0 x.now now hc _ k0).mono ?_
  rintro e w' ⟨rfl, rfl⟩
  go_wp2_with fail
  refine (linkCheckIn_range g off c k s o h _ hm).mono ?_
  rintro e w' ⟨rfl, rfl⟩
  go_wp2
  go_ret2
  exact ⟨rfl, rfl⟩
set_option maxRecDepth 100000 in
set_option maxHeartbeats 2000000 in
theorem linkHear_1cold (b g off c : Nat) (x : Pl.Lk) (now s o : Int) (hc : Pl.clockOk x.now now) (hd : (x.state == 2) = false) (hmsg : Pl.msgOk 1 s o) (w : World) (hg : LinkAt w b x) (hm : MsgIn w g off 1 s o) (hne : g ≠ b) :
    Calls Try.prog 20 #[.pointer (some ⟨b, 0, none⟩), .slice (some ⟨g, off, none⟩) 3 c, .int .i64 now] w fun e w' => ∃ g', e = .returned (.tuple #[.slice (some ⟨g', 0, none⟩) 3 3, .nilIface]) ∧ w.heap.size ≤ g' ∧ MsgAt w' g' 2 x.me s ∧ LinkAt w' b (x.warm now s now) ∧ KeepsBut b w w' := by
  have k0 := obj_cell hg (k := 0) rfl
  have f0 := obj_free hg 0
  go_enter Try.func20, Try.ntmps20
  go_wp2_with fail
  refine (clockCheck_ok b 0 x.now now hc _ k0).mono ?_
  rintro e w' ⟨rfl, rfl⟩
  go_wp2_with fail
  refine (linkCheckIn_ok g off c 1 s o hmsg _ hm).mono ?_
  rintro e w' ⟨rfl, rfl⟩
  go_wp2_with fail
  refine (clockSet_any b 0 now _ _ k0 f0).mono ?_
  rintro e w1 ⟨rfl, rfl⟩
  clear k0 f0
  go_upto_region 8 with fail
  refine abs_at (fun y => LinkAt y b (x.tick now) ∧ MsgIn y g off 1 s o ∧ KeepsBut b w y) ⟨LinkAt.set0 hg now, MsgIn.other hm (KeepsBut.set (KeepsBut.refl _ _) _ _) hne, KeepsBut.set (KeepsBut.refl _ _) _ _⟩ ?_
  clear hg hm
  rintro wx ⟨hg, ⟨m0, m1, m2⟩, kk⟩
  have hm : MsgIn wx g off 1 s o := ⟨m0, m1, m2⟩
  have k1 := obj_cell hg (k := 1) rfl
  have k2 := obj_cell hg (k := 2) rfl
  have k3 := obj_cell hg (k := 3) rfl
  have k4 := obj_cell hg (k := 4) rfl
  have f2 := obj_free hg 2
  have f3 := obj_free hg 3
  have f4 := obj_free hg 4
  simp only [Pl.Lk.tick] at k1 k2 k3 k4
  go_wp2_with fail
  go_quiet (fail)
  go_wp2_with fail
  go_quiet (fail)
  go_wp2_with fail
  go_quiet (fail)
  go_upto_region 15 with fail
  refine abs_at (fun y => LinkAt y b (x.warm now s x.sent) ∧ MsgIn y g off 1 s o ∧ KeepsBut b w y) ⟨obj_set (obj_set (obj_set hg 3 _) 2 _) 4 _, MsgIn.other hm (KeepsBut.set (KeepsBut.set (KeepsBut.set (Keeps.drewN (KeepsBut.refl _ _) _) _ _) _ _) _ _) hne, KeepsBut.set (KeepsBut.set (KeepsBut.set (Keeps.drewN kk _) _ _) _ _) _ _⟩ ?_
  clear hg hm kk m0 m1 m2 k1 k2 k3 k4 f2 f3 f4
  rintro wy ⟨hg, ⟨m0, m1, m2⟩, kk⟩
  go_wp2_with fail
  refine (linkSay_any b (x.warm now s x.sent) 2 now _ hg).mono ?_
  rintro e w2 ⟨g2, rfl, hgs, m, gl, k2⟩
  go_wp2
  go_ret2
  have := kk.size
  exact ⟨g2, rfl, by omega, m, gl, Keeps.trans kk (k2.mono (fun _ _ h => h))⟩

set_option maxRecDepth 100000 in
set_option maxHeartbeats 2000000 in
theorem linkHear_1old (b g off c : Nat) (x : Pl.Lk) (now s o : Int) (hc : Pl.clockOk x.now now) (hd : (x.state == 2) = true) (hl : decide (s < x.other) = true) (hmsg : Pl.msgOk 1 s o) (w : World) (hg : LinkAt w b x) (hm : MsgIn w g off 1 s o) (hne : g ≠ b) :
    Calls Try.prog 20 #[.pointer (some ⟨b, 0, none⟩), .slice (some ⟨g, off, none⟩) 3 c, .int .i64 now] w fun e w' => e = .returned (.tuple #[.slice none 0 0, .nilIface]) ∧ LinkAt w' b (x.tick now) ∧ KeepsBut b w w' := by
  have k0 := obj_cell hg (k := 0) rfl
  have f0 := obj_free hg 0
  go_enter Try.func20, Try.ntmps20
  go_wp2_with fail
  refine (clockCheck_ok b 0 x.now now hc _ k0).mono ?_
  rintro e w' ⟨rfl, rfl⟩
  go_wp2_with fail
  refine (linkCheckIn_ok g off c 1 s o hmsg _ hm).mono ?_
  rintro e w' ⟨rfl, rfl⟩
  go_wp2_with fail
  refine (clockSet_any b 0 now _ _ k0 f0).mono ?_
  rintro e w1 ⟨rfl, rfl⟩
  clear k0 f0
  go_upto_region 8 with fail
  refine abs_at (fun y => LinkAt y b (x.tick now) ∧ MsgIn y g off 1 s o ∧ KeepsBut b w y) ⟨LinkAt.set0 hg now, MsgIn.other hm (KeepsBut.set (KeepsBut.refl _ _) _ _) hne, KeepsBut.set (KeepsBut.refl _ _) _ _⟩ ?_
  clear hg hm
  rintro wx ⟨hg, ⟨m0, m1, m2⟩, kk⟩
  have hm : MsgIn wx g off 1 s o := ⟨m0, m1, m2⟩
  have k1 := obj_cell hg (k := 1) rfl
  have k2 := obj_cell hg (k := 2) rfl
  have k3 := obj_cell hg (k := 3) rfl
  have k4 := obj_cell hg (k := 4) rfl
  have f2 := obj_free hg 2
  have f3 := obj_free hg 3
  have f4 := obj_free hg 4
  simp only [Pl.Lk.tick] at k1 k2 k3 k4
  go_wp2_with fail
  go_quiet (fail)
  go_wp2_with fail
  go_quiet (fail)
  go_wp2_with fail
  try (go_quiet (fail); go_wp2_with fail)
  go_ret2
  exact ⟨rfl, hg, by repeat (first | exact kk | refine Keeps.drewN ?_ _)⟩

set_option maxRecDepth 100000 in
set_option maxHeartbeats 2000000 in
theorem linkHear_1warm (b g off c : Nat) (x : Pl.Lk) (now s o : Int) (hc : Pl.clockOk x.now now) (hd : (x.state == 2) = true) (hl : decide (s < x.other) = false) (hmsg : Pl.msgOk 1 s o) (w : World) (hg : LinkAt w b x) (hm : MsgIn w g off 1 s o) (hne : g ≠ b) :
    Calls Try.prog 20 #[.pointer (some ⟨b, 0, none⟩), .slice (some ⟨g, off, none⟩) 3 c, .int .i64 now] w fun e w' => ∃ g', e = .returned (.tuple #[.slice (some ⟨g', 0, none⟩) 3 3, .nilIface]) ∧ w.heap.size ≤ g' ∧ MsgAt w' g' 2 x.me s ∧ LinkAt w' b (x.warm now s now) ∧ KeepsBut b w w' := by
  have k0 := obj_cell hg (k := 0) rfl
  have f0 := obj_free hg 0
  go_enter Try.func20, Try.ntmps20
  go_wp2_with fail
  refine (clockCheck_ok b 0 x.now now hc _ k0).mono ?_
  rintro e w' ⟨rfl, rfl⟩
  go_wp2_with fail
  refine (linkCheckIn_ok g off c 1 s o hmsg _ hm).mono ?_
  rintro e w' ⟨rfl, rfl⟩
  go_wp2_with fail
  refine (clockSet_any b 0 now _ _ k0 f0).mono ?_
  rintro e w1 ⟨rfl, rfl⟩
  clear k0 f0
  go_upto_region 8 with fail
  refine abs_at (fun y => LinkAt y b (x.tick now) ∧ MsgIn y g off 1 s o ∧ KeepsBut b w y) ⟨LinkAt.set0 hg now, MsgIn.other hm (KeepsBut.set (KeepsBut.refl _ _) _ _) hne, KeepsBut.set (KeepsBut.refl _ _) _ _⟩ ?_
  clear hg hm
  rintro wx ⟨hg, ⟨m0, m1, m2⟩, kk⟩
  have hm : MsgIn wx g off 1 s o := ⟨m0, m1, m2⟩
  have k1 := obj_cell hg (k := 1) rfl
  have k2 := obj_cell hg (k := 2) rfl
  have k3 := obj_cell hg (k := 3) rfl
  have k4 := obj_cell hg (k := 4) rfl
  have f2 := obj_free hg 2
  have f3 := obj_free hg 3
  have f4 := obj_free hg 4
  simp only [Pl.Lk.tick] at k1 k2 k3 k4
  go_wp2_with fail
  go_quiet (fail)
  go_wp2_with fail
  go_quiet (fail)
  go_wp2_with fail
  go_quiet (fail)
  go_upto_region 15 with fail
  refine abs_at (fun y => LinkAt y b (x.warm now s x.sent) ∧ MsgIn y g off 1 s o ∧ KeepsBut b w y) ⟨obj_set (obj_set (obj_set hg 3 _) 2 _) 4 _, MsgIn.other hm (KeepsBut.set (KeepsBut.set (KeepsBut.set (Keeps.drewN (KeepsBut.refl _ _) _) _ _) _ _) _ _) hne, KeepsBut.set (KeepsBut.set (KeepsBut.set (Keeps.drewN kk _) _ _) _ _) _ _⟩ ?_
  clear hg hm kk m0 m1 m2 k1 k2 k3 k4 f2 f3 f4
  rintro wy ⟨hg, ⟨m0, m1, m2⟩, kk⟩
  go_wp2_with fail
  refine (linkSay_any b (x.warm now s x.sent) 2 now _ hg).mono ?_
  rintro e w2 ⟨g2, rfl, hgs, m, gl, k2⟩
  go_wp2
  go_ret2
  have := kk.size
  exact ⟨g2, rfl, by omega, m, gl, Keeps.trans kk (k2.mono (fun _ _ h => h))⟩

set_option maxRecDepth 100000 in
set_option maxHeartbeats 2000000 in
theorem linkHear_2cold (b g off c : Nat) (x : Pl.Lk) (now s o : Int) (hc : Pl.clockOk x.now now) (hd : (x.state == 2) = false) (ho : (o == x.me) = true) (hmsg : Pl.msgOk 2 s o) (w : World) (hg : LinkAt w b x) (hm : MsgIn w g off 2 s o) (hne : g ≠ b) :
    Calls Try.prog 20 #[.pointer (some ⟨b, 0, none⟩), .slice (some ⟨g, off, none⟩) 3 c, .int .i64 now] w fun e w' => ∃ g', e = .returned (.tuple #[.slice (some ⟨g', 0, none⟩) 3 3, .nilIface]) ∧ w.heap.size ≤ g' ∧ MsgAt w' g' 3 x.me s ∧ LinkAt w' b (x.warm now s now) ∧ KeepsBut b w w' := by
  have k0 := obj_cell hg (k := 0) rfl
  have f0 := obj_free hg 0
  go_enter Try.func20, Try.ntmps20
  go_wp2_with fail
  refine (clockCheck_ok b 0 x.now now hc _ k0).mono ?_
  rintro e w' ⟨rfl, rfl⟩
  go_wp2_with fail
  refine (linkCheckIn_ok g off c 2 s o hmsg _ hm).mono ?_
  rintro e w' ⟨rfl, rfl⟩
  go_wp2_with fail
  refine (clockSet_any b 0 now _ _ k0 f0).mono ?_
  rintro e w1 ⟨rfl, rfl⟩
  clear k0 f0
  go_upto_region 8 with fail
  refine abs_at (fun y => LinkAt y b (x.tick now) ∧ MsgIn y g off 2 s o ∧ KeepsBut b w y) ⟨LinkAt.set0 hg now, MsgIn.other hm (KeepsBut.set (KeepsBut.refl _ _) _ _) hne, KeepsBut.set (KeepsBut.refl _ _) _ _⟩ ?_
  clear hg hm
  rintro wx ⟨hg, ⟨m0, m1, m2⟩, kk⟩
  have hm : MsgIn wx g off 2 s o := ⟨m0, m1, m2⟩
  have k1 := obj_cell hg (k := 1) rfl
  have k2 := obj_cell hg (k := 2) rfl
  have k3 := obj_cell hg (k := 3) rfl
  have k4 := obj_cell hg (k := 4) rfl
  have f2 := obj_free hg 2
  have f3 := obj_free hg 3
  have f4 := obj_free hg 4
  simp only [Pl.Lk.tick] at k1 k2 k3 k4
  go_wp2_with fail
  go_quiet (fail)
  go_wp2_with fail
  go_quiet (fail)
  go_wp2_with fail
  go_quiet (fail)
  go_upto_region 15 with fail
  refine abs_at (fun y => LinkAt y b (x.warm now s x.sent) ∧ MsgIn y g off 2 s o ∧ KeepsBut b w y) ⟨obj_set (obj_set (obj_set hg 3 _) 2 _) 4 _, MsgIn.other hm (KeepsBut.set (KeepsBut.set (KeepsBut.set (Keeps.drewN (KeepsBut.refl _ _) _) _ _) _ _) _ _) hne, KeepsBut.set (KeepsBut.set (KeepsBut.set (Keeps.drewN kk _) _ _) _ _) _ _⟩ ?_
  clear hg hm kk m0 m1 m2 k1 k2 k3 k4 f2 f3 f4
  rintro wy ⟨hg, ⟨m0, m1, m2⟩, kk⟩
  go_wp2_with fail
  refine (linkSay_any b (x.warm now s x.sent) 3 now _ hg).mono ?_
  rintro e w2 ⟨g2, rfl, hgs, m, gl, k2⟩
  go_wp2
  go_ret2
  have := kk.size
  exact ⟨g2, rfl, by omega, m, gl, Keeps.trans kk (k2.mono (fun _ _ h => h))⟩

set_option maxRecDepth 100000 in
set_option maxHeartbeats 2000000 in
theorem linkHear_2not0 (b g off c : Nat) (x : Pl.Lk) (now s o : Int) (hc : Pl.clockOk x.now now) (hd : (x.state == 2) = false) (ho : (o == x.me) = false) (hmsg : Pl.msgOk 2 s o) (w : World) (hg : LinkAt w b x) (hm : MsgIn w g off 2 s o) (hne : g ≠ b) :
    Calls Try.prog 20 #[.pointer (some ⟨b, 0, none⟩), .slice (some ⟨g, off, none⟩) 3 c, .int .i64 now] w fun e w' => e = .returned (.tuple #[.slice none 0 0, .nilIface]) ∧ LinkAt w' b (x.tick now) ∧ KeepsBut b w w' := by
  have k0 := obj_cell hg (k := 0) rfl
  have f0 := obj_free hg 0
  go_enter Try.func20, Try.ntmps20
  go_wp2_with fail
  refine (clockCheck_ok b 0 x.now now hc _ k0).mono ?_
  rintro e w' ⟨rfl, rfl⟩
  go_wp2_with fail
  refine (linkCheckIn_ok g off c 2 s o hmsg _ hm).mono ?_
  rintro e w' ⟨rfl, rfl⟩
  go_wp2_with fail
  refine (clockSet_any b 0 now _ _ k0 f0).mono ?_
  rintro e w1 ⟨rfl, rfl⟩
  clear k0 f0
  go_upto_region 8 with fail
  refine abs_at (fun y => LinkAt y b (x.tick now) ∧ MsgIn y g off 2 s o ∧ KeepsBut b w y) ⟨LinkAt.set0 hg now, MsgIn.other hm (KeepsBut.set (KeepsBut.refl _ _) _ _) hne, KeepsBut.set (KeepsBut.refl _ _) _ _⟩ ?_
  clear hg hm
  rintro wx ⟨hg, ⟨m0, m1, m2⟩, kk⟩
  have hm : MsgIn wx g off 2 s o := ⟨m0, m1, m2⟩
  have k1 := obj_cell hg (k := 1) rfl
  have k2 := obj_cell hg (k := 2) rfl
  have k3 := obj_cell hg (k := 3) rfl
  have k4 := obj_cell hg (k := 4) rfl
  have f2 := obj_free hg 2
  have f3 := obj_free hg 3
  have f4 := obj_free hg 4
  simp only [Pl.Lk.tick] at k1 k2 k3 k4
  go_wp2_with fail
  go_quiet (fail)
  go_wp2_with fail
  go_quiet (fail)
  go_wp2_with fail
  try (go_quiet (fail); go_wp2_with fail)
  go_ret2
  exact ⟨rfl, hg, by repeat (first | exact kk | refine Keeps.drewN ?_ _)⟩

set_option maxRecDepth 100000 in
set_option maxHeartbeats 2000000 in
theorem linkHear_2not1 (b g off c : Nat) (x : Pl.Lk) (now s o : Int) (hc : Pl.clockOk x.now now) (hd : (x.state == 2) = true) (ho : (o == x.me) = false) (hmsg : Pl.msgOk 2 s o) (w : World) (hg : LinkAt w b x) (hm : MsgIn w g off 2 s o) (hne : g ≠ b) :
    Calls Try.prog 20 #[.pointer (some ⟨b, 0, none⟩), .slice (some ⟨g, off, none⟩) 3 c, .int .i64 now] w fun e w' => e = .returned (.tuple #[.slice none 0 0, .nilIface]) ∧ LinkAt w' b (x.tick now) ∧ KeepsBut b w w' := by
  have k0 := obj_cell hg (k := 0) rfl
  have f0 := obj_free hg 0
  go_enter Try.func20, Try.ntmps20
  go_wp2_with fail
  refine (clockCheck_ok b 0 x.now now hc _ k0).mono ?_
  rintro e w' ⟨rfl, rfl⟩
  go_wp2_with fail
  refine (linkCheckIn_ok g off c 2 s o hmsg _ hm).mono ?_
  rintro e w' ⟨rfl, rfl⟩
  go_wp2_with fail
  refine (clockSet_any b 0 now _ _ k0 f0).mono ?_
  rintro e w1 ⟨rfl, rfl⟩
  clear k0 f0
  go_upto_region 8 with fail
  refine abs_at (fun y => LinkAt y b (x.tick now) ∧ MsgIn y g off 2 s o ∧ KeepsBut b w y) ⟨LinkAt.set0 hg now, MsgIn.other hm (KeepsBut.set (KeepsBut.refl _ _) _ _) hne, KeepsBut.set (KeepsBut.refl _ _) _ _⟩ ?_
  clear hg hm
  rintro wx ⟨hg, ⟨m0, m1, m2⟩, kk⟩
  have hm : MsgIn wx g off 2 s o := ⟨m0, m1, m2⟩
  have k1 := obj_cell hg (k := 1) rfl
  have k2 := obj_cell hg (k := 2) rfl
  have k3 := obj_cell hg (k := 3) rfl
  have k4 := obj_cell hg (k := 4) rfl
  have f2 := obj_free hg 2
  have f3 := obj_free hg 3
  have f4 := obj_free hg 4
  simp only [Pl.Lk.tick] at k1 k2 k3 k4
  go_wp2_with fail
  go_quiet (fail)
  go_wp2_with fail
  go_quiet (fail)
  go_wp2_with fail
  try (go_quiet (fail); go_wp2_with fail)
  go_ret2
  exact ⟨rfl, hg, by repeat (first | exact kk | refine Keeps.drewN ?_ _)⟩

set_option maxRecDepth 100000 in
set_option maxHeartbeats 2000000 in
theorem linkHear_2old (b g off c : Nat) (x : Pl.Lk) (now s o : Int) (hc : Pl.clockOk x.now now) (hd : (x.state == 2) = true) (ho : (o == x.me) = true) (hl : decide (s < x.other) = true) (hmsg : Pl.msgOk 2 s o) (w : World) (hg : LinkAt w b x) (hm : MsgIn w g off 2 s o) (hne : g ≠ b) :
    Calls Try.prog 20 #[.pointer (some ⟨b, 0, none⟩), .slice (some ⟨g, off, none⟩) 3 c, .int .i64 now] w fun e w' => e = .returned (.tuple #[.slice none 0 0, .nilIface]) ∧ LinkAt w' b (x.tick now) ∧ KeepsBut b w w' := by
  have k0 := obj_cell hg (k := 0) rfl
  have f0 := obj_free hg 0
  go_enter Try.func20, Try.ntmps20
  go_wp2_with fail
  refine (clockCheck_ok b 0 x.now now hc _ k0).mono ?_
  rintro e w' ⟨rfl, rfl⟩
  go_wp2_with fail
  refine (linkCheckIn_ok g off c 2 s o hmsg _ hm).mono ?_
  rintro e w' ⟨rfl, rfl⟩
  go_wp2_with fail
  refine (clockSet_any b 0 now _ _ k0 f0).mono ?_
  rintro e w1 ⟨rfl, rfl⟩
  clear k0 f0
  go_upto_region 8 with fail
  refine abs_at (fun y => LinkAt y b (x.tick now) ∧ MsgIn y g off 2 s o ∧ KeepsBut b w y) ⟨LinkAt.set0 hg now, MsgIn.other hm (KeepsBut.set (KeepsBut.refl _ _) _ _) hne, KeepsBut.set (KeepsBut.refl _ _) _ _⟩ ?_
  clear hg hm
  rintro wx ⟨hg, ⟨m0, m1, m2⟩, kk⟩
  have hm : MsgIn wx g off 2 s o := ⟨m0, m1, m2⟩
  have k1 := obj_cell hg (k := 1) rfl
  have k2 := obj_cell hg (k := 2) rfl
  have k3 := obj_cell hg (k := 3) rfl
  have k4 := obj_cell hg (k := 4) rfl
  have f2 := obj_free hg 2
  have f3 := obj_free hg 3
  have f4 := obj_free hg 4
  simp only [Pl.Lk.tick] at k1 k2 k3 k4
  go_wp2_with fail
  go_quiet (fail)
  go_wp2_with fail
  go_quiet (fail)
  go_wp2_with fail
  try (go_quiet (fail); go_wp2_with fail)
  go_ret2
  exact ⟨rfl, hg, by repeat (first | exact kk | refine Keeps.drewN ?_ _)⟩

set_option maxRecDepth 100000 in
set_option maxHeartbeats 2000000 in
theorem linkHear_2same (b g off c : Nat) (x : Pl.Lk) (now s o : Int) (hc : Pl.clockOk x.now now) (hd : (x.state == 2) = true) (ho : (o == x.me) = true) (hl : decide (s < x.other) = false) (he : (s == x.other) = true) (hmsg : Pl.msgOk 2 s o) (w : World) (hg : LinkAt w b x) (hm : MsgIn w g off 2 s o) (hne : g ≠ b) :
    Calls Try.prog 20 #[.pointer (some ⟨b, 0, none⟩), .slice (some ⟨g, off, none⟩) 3 c, .int .i64 now] w fun e w' => e = .returned (.tuple #[.slice none 0 0, .nilIface]) ∧ LinkAt w' b (x.warm now s x.sent) ∧ KeepsBut b w w' := by
  have k0 := obj_cell hg (k := 0) rfl
  have f0 := obj_free hg 0
  go_enter Try.func20, Try.ntmps20
  go_wp2_with fail
  refine (clockCheck_ok b 0 x.now now hc _ k0).mono ?_
  rintro e w' ⟨rfl, rfl⟩
  go_wp2_with fail
  refine (linkCheckIn_ok g off c 2 s o hmsg _ hm).mono ?_
  rintro e w' ⟨rfl, rfl⟩
  go_wp2_with fail
  refine (clockSet_any b 0 now _ _ k0 f0).mono ?_
  rintro e w1 ⟨rfl, rfl⟩
  clear k0 f0
  go_upto_region 8 with fail
  refine abs_at (fun y => LinkAt y b (x.tick now) ∧ MsgIn y g off 2 s o ∧ KeepsBut b w y) ⟨LinkAt.set0 hg now, MsgIn.other hm (KeepsBut.set (KeepsBut.refl _ _) _ _) hne, KeepsBut.set (KeepsBut.refl _ _) _ _⟩ ?_
  clear hg hm
  rintro wx ⟨hg, ⟨m0, m1, m2⟩, kk⟩
  have hm : MsgIn wx g off 2 s o := ⟨m0, m1, m2⟩
  have k1 := obj_cell hg (k := 1) rfl
  have k2 := obj_cell hg (k := 2) rfl
  have k3 := obj_cell hg (k := 3) rfl
  have k4 := obj_cell hg (k := 4) rfl
  have f2 := obj_free hg 2
  have f3 := obj_free hg 3
  have f4 := obj_free hg 4
  simp only [Pl.Lk.tick] at k1 k2 k3 k4
  go_wp2_with fail
  go_quiet (fail)
  go_wp2_with fail
  go_quiet (fail)
  go_wp2_with fail
  go_quiet (fail)
  go_upto_region 15 with fail
  refine abs_at (fun y => LinkAt y b (x.warm now s x.sent) ∧ MsgIn y g off 2 s o ∧ KeepsBut b w y) ⟨obj_set (obj_set (obj_set hg 3 _) 2 _) 4 _, MsgIn.other hm (KeepsBut.set (KeepsBut.set (KeepsBut.set (Keeps.drewN (KeepsBut.refl _ _) _) _ _) _ _) _ _) hne, KeepsBut.set (KeepsBut.set (KeepsBut.set (Keeps.drewN kk _) _ _) _ _) _ _⟩ ?_
  clear hg hm kk m0 m1 m2 k1 k2 k3 k4 f2 f3 f4
  rintro wy ⟨hg, ⟨m0, m1, m2⟩, kk⟩
  go_wp2
  go_ret2
  exact ⟨rfl, hg, kk⟩

set_option maxRecDepth 100000 in
set_option maxHeartbeats 2000000 in
theorem linkHear_2new (b g off c : Nat) (x : Pl.Lk) (now s o : Int) (hc : Pl.clockOk x.now now) (hd : (x.state == 2) = true) (ho : (o == x.me) = true) (hl : decide (s < x.other) = false) (he : (s == x.other) = false) (hmsg : Pl.msgOk 2 s o) (w : World) (hg : LinkAt w b x) (hm : MsgIn w g off 2 s o) (hne : g ≠ b) :
    Calls Try.prog 20 #[.pointer (some ⟨b, 0, none⟩), .slice (some ⟨g, off, none⟩) 3 c, .int .i64 now] w fun e w' => ∃ g', e = .returned (.tuple #[.slice (some ⟨g', 0, none⟩) 3 3, .nilIface]) ∧ w.heap.size ≤ g' ∧ MsgAt w' g' 3 x.me s ∧ LinkAt w' b (x.warm now s now) ∧ KeepsBut b w w' := by
  have k0 := obj_cell hg (k := 0) rfl
  have f0 := obj_free hg 0
  go_enter Try.func20, Try.ntmps20
  go_wp2_with fail
  refine (clockCheck_ok b 0 x.now now hc _ k0).mono ?_
  rintro e w' ⟨rfl, rfl⟩
  go_wp2_with fail
  refine (linkCheckIn_ok g off c 2 s o hmsg _ hm).mono ?_
  rintro e w' ⟨rfl, rfl⟩
  go_wp2_with fail
  refine (clockSet_any b 0 now _ _ k0 f0).mono ?_
  rintro e w1 ⟨rfl, rfl⟩
  clear k0 f0
  go_upto_region 8 with fail
  refine abs_at (fun y => LinkAt y b (x.tick now) ∧ MsgIn y g off 2 s o ∧ KeepsBut b w y) ⟨LinkAt.set0 hg now, MsgIn.other hm (KeepsBut.set (KeepsBut.refl _ _) _ _) hne, KeepsBut.set (KeepsBut.refl _ _) _ _⟩ ?_
  clear hg hm
  rintro wx ⟨hg, ⟨m0, m1, m2⟩, kk⟩
  have hm : MsgIn wx g off 2 s o := ⟨m0, m1, m2⟩
  have k1 := obj_cell hg (k := 1) rfl
  have k2 := obj_cell hg (k := 2) rfl
  have k3 := obj_cell hg (k := 3) rfl
  have k4 := obj_cell hg (k := 4) rfl
  have f2 := obj_free hg 2
  have f3 := obj_free hg 3
  have f4 := obj_free hg 4
  simp only [Pl.Lk.tick] at k1 k2 k3 k4
  go_wp2_with fail
  go_quiet (fail)
  go_wp2_with fail
  go_quiet (fail)
  go_wp2_with fail
  go_quiet (fail)
  go_upto_region 15 with fail
  refine abs_at (fun y => LinkAt y b (x.warm now s x.sent) ∧ MsgIn y g off 2 s o ∧ KeepsBut b w y) ⟨obj_set (obj_set (obj_set hg 3 _) 2 _) 4 _, MsgIn.other hm (KeepsBut.set (KeepsBut.set (KeepsBut.set (Keeps.drewN (KeepsBut.refl _ _) _) _ _) _ _) _ _) hne, KeepsBut.set (KeepsBut.set (KeepsBut.set (Keeps.drewN kk _) _ _) _ _) _ _⟩ ?_
  clear hg hm kk m0 m1 m2 k1 k2 k3 k4 f2 f3 f4
  rintro wy ⟨hg, ⟨m0, m1, m2⟩, kk⟩
  go_wp2_with fail
  refine (linkSay_any b (x.warm now s x.sent) 3 now _ hg).mono ?_
  rintro e w2 ⟨g2, rfl, hgs, m, gl, k2⟩
  go_wp2
  go_ret2
  have := kk.size
  exact ⟨g2, rfl, by omega, m, gl, Keeps.trans kk (k2.mono (fun _ _ h => h))⟩

set_option maxRecDepth 100000 in
set_option maxHeartbeats 2000000 in
theorem linkHear_3not0 (b g off c : Nat) (x : Pl.Lk) (now s o : Int) (hc : Pl.clockOk x.now now) (hd : (x.state == 2) = false) (ho : (o == x.me) = false) (hmsg : Pl.msgOk 3 s o) (w : World) (hg : LinkAt w b x) (hm : MsgIn w g off 3 s o) (hne : g ≠ b) :
    Calls Try.prog 20 #[.pointer (some ⟨b, 0, none⟩), .slice (some ⟨g, off, none⟩) 3 c, .int .i64 now] w fun e w' => e = .returned (.tuple #[.slice none 0 0, .nilIface]) ∧ LinkAt w' b (x.tick now) ∧ KeepsBut b w w' := by
  have k0 := obj_cell hg (k := 0) rfl
  have f0 := obj_free hg 0
  go_enter Try.func20, Try.ntmps20
  go_wp2_with fail
  refine (clockCheck_ok b 0 x.now now hc _ k0).mono ?_
  rintro e w' ⟨rfl, rfl⟩
  go_wp2_with fail
  refine (linkCheckIn_ok g off c 3 s o hmsg _ hm).mono ?_
  rintro e w' ⟨rfl, rfl⟩
  go_wp2_with fail
  refine (clockSet_any b 0 now _ _ k0 f0).mono ?_
  rintro e w1 ⟨rfl, rfl⟩
  clear k0 f0
  go_upto_region 8 with fail
  refine abs_at (fun y => LinkAt y b (x.tick now) ∧ MsgIn y g off 3 s o ∧ KeepsBut b w y) ⟨LinkAt.set0 hg now, MsgIn.other hm (KeepsBut.set (KeepsBut.refl _ _) _ _) hne, KeepsBut.set (KeepsBut.refl _ _) _ _⟩ ?_
  clear hg hm
  rintro wx ⟨hg, ⟨m0, m1, m2⟩, kk⟩
  have hm : MsgIn wx g off 3 s o := ⟨m0, m1, m2⟩
  have k1 := obj_cell hg (k := 1) rfl
  have k2 := obj_cell hg (k := 2) rfl
  have k3 := obj_cell hg (k := 3) rfl
  have k4 := obj_cell hg (k := 4) rfl
  have f2 := obj_free hg 2
  have f3 := obj_free hg 3
  have f4 := obj_free hg 4
  simp only [Pl.Lk.tick] at k1 k2 k3 k4
  go_wp2_with fail
  go_quiet (fail)
  go_wp2_with fail
  go_quiet (fail)
  go_wp2_with fail
  try (go_quiet (fail); go_wp2_with fail)
  go_ret2
  exact ⟨rfl, hg, by repeat (first | exact kk | refine Keeps.drewN ?_ _)⟩

set_option maxRecDepth 100000 in
set_option maxHeartbeats 2000000 in
theorem linkHear_3not1 (b g off c : Nat) (x : Pl.Lk) (now s o : Int) (hc : Pl.clockOk x.now now) (hd : (x.state == 2) = true) (ho : (o == x.me) = false) (hmsg : Pl.msgOk 3 s o) (w : World) (hg : LinkAt w b x) (hm : MsgIn w g off 3 s o) (hne : g ≠ b) :
    Calls Try.prog 20 #[.pointer (some ⟨b, 0, none⟩), .slice (some ⟨g, off, none⟩) 3 c, .int .i64 now] w fun e w' => e = .returned (.tuple #[.slice none 0 0, .nilIface]) ∧ LinkAt w' b (x.tick now) ∧ KeepsBut b w w' := by
  have k0 := obj_cell hg (k := 0) rfl
  have f0 := obj_free hg 0
  go_enter Try.func20, Try.ntmps20
  go_wp2_with fail
  refine (clockCheck_ok b 0 x.now now hc _ k0).mono ?_
  rintro e w' ⟨rfl, rfl⟩
  go_wp2_with fail
  refine (linkCheckIn_ok g off c 3 s o hmsg _ hm).mono ?_
  rintro e w' ⟨rfl, rfl⟩
  go_wp2_with fail
  refine (clockSet_any b 0 now _ _ k0 f0).mono ?_
  rintro e w1 ⟨rfl, rfl⟩
  clear k0 f0
  go_upto_region 8 with fail
  refine abs_at (fun y => LinkAt y b (x.tick now) ∧ MsgIn y g off 3 s o ∧ KeepsBut b w y) ⟨LinkAt.set0 hg now, MsgIn.other hm (KeepsBut.set (KeepsBut.refl _ _) _ _) hne, KeepsBut.set (KeepsBut.refl _ _) _ _⟩ ?_
  clear hg hm
  rintro wx ⟨hg, ⟨m0, m1, m2⟩, kk⟩
  have hm : MsgIn wx g off 3 s o := ⟨m0, m1, m2⟩
  have k1 := obj_cell hg (k := 1) rfl
  have k2 := obj_cell hg (k := 2) rfl
  have k3 := obj_cell hg (k := 3) rfl
  have k4 := obj_cell hg (k := 4) rfl
  have f2 := obj_free hg 2
  have f3 := obj_free hg 3
  have f4 := obj_free hg 4
  simp only [Pl.Lk.tick] at k1 k2 k3 k4
  go_wp2_with fail
  go_quiet (fail)
  go_wp2_with fail
  go_quiet (fail)
  go_wp2_with fail
  try (go_quiet (fail); go_wp2_with fail)
  go_ret2
  exact ⟨rfl, hg, by repeat (first | exact kk | refine Keeps.drewN ?_ _)⟩

set_option maxRecDepth 100000 in
set_option maxHeartbeats 2000000 in
theorem linkHear_3cold (b g off c : Nat) (x : Pl.Lk) (now s o : Int) (hc : Pl.clockOk x.now now) (hd : (x.state == 2) = false) (ho : (o == x.me) = true) (hmsg : Pl.msgOk 3 s o) (w : World) (hg : LinkAt w b x) (hm : MsgIn w g off 3 s o) (hne : g ≠ b) :
    Calls Try.prog 20 #[.pointer (some ⟨b, 0, none⟩), .slice (some ⟨g, off, none⟩) 3 c, .int .i64 now] w fun e w' => e = .returned (.tuple #[.slice none 0 0, .nilIface]) ∧ LinkAt w' b (x.tick now) ∧ KeepsBut b w w' := by
  have k0 := obj_cell hg (k := 0) rfl
  have f0 := obj_free hg 0
  go_enter Try.func20, Try.ntmps20
  go_wp2_with fail
  refine (clockCheck_ok b 0 x.now now hc _ k0).mono ?_
  rintro e w' ⟨rfl, rfl⟩
  go_wp2_with fail
  refine (linkCheckIn_ok g off c 3 s o hmsg _ hm).mono ?_
  rintro e w' ⟨rfl, rfl⟩
  go_wp2_with fail
  refine (clockSet_any b 0 now _ _ k0 f0).mono ?_
  rintro e w1 ⟨rfl, rfl⟩
  clear k0 f0
  go_upto_region 8 with fail
  refine abs_at (fun y => LinkAt y b (x.tick now) ∧ MsgIn y g off 3 s o ∧ KeepsBut b w y) ⟨LinkAt.set0 hg now, MsgIn.other hm (KeepsBut.set (KeepsBut.refl _ _) _ _) hne, KeepsBut.set (KeepsBut.refl _ _) _ _⟩ ?_
  clear hg hm
  rintro wx ⟨hg, ⟨m0, m1, m2⟩, kk⟩
  have hm : MsgIn wx g off 3 s o := ⟨m0, m1, m2⟩
  have k1 := obj_cell hg (k := 1) rfl
  have k2 := obj_cell hg (k := 2) rfl
  have k3 := obj_cell hg (k := 3) rfl
  have k4 := obj_cell hg (k := 4) rfl
  have f2 := obj_free hg 2
  have f3 := obj_free hg 3
  have f4 := obj_free hg 4
  simp only [Pl.Lk.tick] at k1 k2 k3 k4
  go_wp2_with fail
  go_quiet (fail)
  go_wp2_with fail
  go_quiet (fail)
  go_wp2_with fail
  try (go_quiet (fail); go_wp2_with fail)
  go_ret2
  exact ⟨rfl, hg, by repeat (first | exact kk | refine Keeps.drewN ?_ _)⟩

set_option maxRecDepth 100000 in
set_option maxHeartbeats 2000000 in
theorem linkHear_3other (b g off c : Nat) (x : Pl.Lk) (now s o : Int) (hc : Pl.clockOk x.now now) (hd : (x.state == 2) = true) (ho : (o == x.me) = true) (he : (s == x.other) = false) (hmsg : Pl.msgOk 3 s o) (w : World) (hg : LinkAt w b x) (hm : MsgIn w g off 3 s o) (hne : g ≠ b) :
    Calls Try.prog 20 #[.pointer (some ⟨b, 0, none⟩), .slice (some ⟨g, off, none⟩) 3 c, .int .i64 now] w fun e w' => e = .returned (.tuple #[.slice none 0 0, .nilIface]) ∧ LinkAt w' b (x.tick now) ∧ KeepsBut b w w' := by
  have k0 := obj_cell hg (k := 0) rfl
  have f0 := obj_free hg 0
  go_enter Try.func20, Try.ntmps20
  go_wp2_with fail
  refine (clockCheck_ok b 0 x.now now hc _ k0).mono ?_
  rintro e w' ⟨rfl, rfl⟩
  go_wp2_with fail
  refine (linkCheckIn_ok g off c 3 s o hmsg _ hm).mono ?_
  rintro e w' ⟨rfl, rfl⟩
  go_wp2_with fail
  refine (clockSet_any b 0 now _ _ k0 f0).mono ?_
  rintro e w1 ⟨rfl, rfl⟩
  clear k0 f0
  go_upto_region 8 with fail
  refine abs_at (fun y => LinkAt y b (x.tick now) ∧ MsgIn y g off 3 s o ∧ KeepsBut b w y) ⟨LinkAt.set0 hg now, MsgIn.other hm (KeepsBut.set (KeepsBut.refl _ _) _ _) hne, KeepsBut.set (KeepsBut.refl _ _) _ _⟩ ?_
  clear hg hm
  rintro wx ⟨hg, ⟨m0, m1, m2⟩, kk⟩
  have hm : MsgIn wx g off 3 s o := ⟨m0, m1, m2⟩
  have k1 := obj_cell hg (k := 1) rfl
  have k2 := obj_cell hg (k := 2) rfl
  have k3 := obj_cell hg (k := 3) rfl
  have k4 := obj_cell hg (k := 4) rfl
  have f2 := obj_free hg 2
  have f3 := obj_free hg 3
  have f4 := obj_free hg 4
  simp only [Pl.Lk.tick] at k1 k2 k3 k4
  go_wp2_with fail
  go_quiet (fail)
  go_wp2_with fail
  go_quiet (fail)
  go_wp2_with fail
  try (go_quiet (fail); go_wp2_with fail)
  go_ret2
  exact ⟨rfl, hg, by repeat (first | exact kk | refine Keeps.drewN ?_ _)⟩

set_option maxRecDepth 100000 in
set_option maxHeartbeats 2000000 in
theorem linkHear_3same (b g off c : Nat) (x : Pl.Lk) (now s o : Int) (hc : Pl.clockOk x.now now) (hd : (x.state == 2) = true) (ho : (o == x.me) = true) (he : (s == x.other) = true) (hmsg : Pl.msgOk 3 s o) (w : World) (hg : LinkAt w b x) (hm : MsgIn w g off 3 s o) (hne : g ≠ b) :
    Calls Try.prog 20 #[.pointer (some ⟨b, 0, none⟩), .slice (some ⟨g, off, none⟩) 3 c, .int .i64 now] w fun e w' => e = .returned (.tuple #[.slice none 0 0, .nilIface]) ∧ LinkAt w' b (x.warm now s x.sent) ∧ KeepsBut b w w' := by
  have k0 := obj_cell hg (k := 0) rfl
  have f0 := obj_free hg 0
  go_enter Try.func20, Try.ntmps20
  go_wp2_with fail
  refine (clockCheck_ok b 0 x.now now hc _ k0).mono ?_
  rintro e w' ⟨rfl, rfl⟩
  go_wp2_with fail
  refine (linkCheckIn_ok g off c 3 s o hmsg _ hm).mono ?_
  rintro e w' ⟨rfl, rfl⟩
  go_wp2_with fail
  refine (clockSet_any b 0 now _ _ k0 f0).mono ?_
  rintro e w1 ⟨rfl, rfl⟩
  clear k0 f0
  go_upto_region 8 with fail
  refine abs_at (fun y => LinkAt y b (x.tick now) ∧ MsgIn y g off 3 s o ∧ KeepsBut b w y) ⟨LinkAt.set0 hg now, MsgIn.other hm (KeepsBut.set (KeepsBut.refl _ _) _ _) hne, KeepsBut.set (KeepsBut.refl _ _) _ _⟩ ?_
  clear hg hm
  rintro wx ⟨hg, ⟨m0, m1, m2⟩, kk⟩
  have hm : MsgIn wx g off 3 s o := ⟨m0, m1, m2⟩
  have k1 := obj_cell hg (k := 1) rfl
  have k2 := obj_cell hg (k := 2) rfl
  have k3 := obj_cell hg (k := 3) rfl
  have k4 := obj_cell hg (k := 4) rfl
  have f2 := obj_free hg 2
  have f3 := obj_free hg 3
  have f4 := obj_free hg 4
  simp only [Pl.Lk.tick] at k1 k2 k3 k4
  go_wp2_with fail
  go_quiet (fail)
  go_wp2_with fail
  go_quiet (fail)
  go_wp2_with fail
  go_quiet (fail)
  go_upto_region 15 with fail
  refine abs_at (fun y => LinkAt y b (x.warm now s x.sent) ∧ MsgIn y g off 3 s o ∧ KeepsBut b w y) ⟨obj_set (obj_set (obj_set hg 3 _) 2 _) 4 _, MsgIn.other hm (KeepsBut.set (KeepsBut.set (KeepsBut.set (Keeps.drewN (KeepsBut.refl _ _) _) _ _) _ _) _ _) hne, KeepsBut.set (KeepsBut.set (KeepsBut.set (Keeps.drewN kk _) _ _) _ _) _ _⟩ ?_
  clear hg hm kk m0 m1 m2 k1 k2 k3 k4 f2 f3 f4
  rintro wy ⟨hg, ⟨m0, m1, m2⟩, kk⟩
  go_wp2
  go_ret2
  exact ⟨rfl, hg, kk⟩

end Go.Proofs.Ytanmokomefdaiaa
