import Derived.Test.YtanmokomefdaiaaClock
import Derived.Outline
import Derived.Deep.DeepCutAuto
import Derived.Deep.QuietTactic
import Derived.BigQuiet
/-! Contracts of package link. -/
namespace Go.Proofs.Ytanmokomefdaiaa
open Go.RowKit
set_option linter.unusedVariables false
set_option linter.unusedSimpArgs false

/-- one side -/
structure Pl.Lk where
  now : Int
  me : Int
  other : Int
  state : Int
  heard : Int
  sent : Int
/-- a side in memory -/
def LinkAt (w : World) (b : Nat) (x : Pl.Lk) : Prop := w.heap[b]? = some (.cells #[.int .i64 x.now, .int .i64 x.me, .int .i64 x.other, .int .i64 x.state, .int .i64 x.heard, .int .i64 x.sent] 81 (0, 0))
/-- a message in memory, at the head of block g -/
def MsgAt (w : World) (g : Nat) (k s o : Int) : Prop := w.heap[g]? = some (.cells #[.int .i64 k, .int .i64 s, .int .i64 o] 3 (0, 0))

theorem linkNew_ok (me : Int) (h1 : 1 ≤ me) (h2 : me ≤ 1000000) (w : World) :
    Calls Try.prog 18 #[.int .i64 me] w fun e w' => ∃ b, e = .returned (.tuple #[.pointer (some ⟨b, 0, none⟩), .nilIface]) ∧ w.heap.size ≤ b ∧ LinkAt w' b ⟨0, me, 0, 0, 0, 0⟩ ∧ Below w.heap.size w w' := by
  go_enter Try.func18, Try.ntmps18
  go_wp2
  go_ret2
  exact ⟨_, rfl, Nat.le_refl _, obj_new _ _, (Below.refl _ _).alloc (Nat.le_refl _) _⟩
theorem linkNew_bad (me : Int) (h : ¬ (1 ≤ me ∧ me ≤ 1000000)) (w : World) :
    Calls Try.prog 18 #[.int .i64 me] w fun e w' => e = .returned (.tuple #[.pointer none, .iface 60 (.int .i64 1)]) ∧ w = w' := by
  have G := Lib.hid h
  clear h
  go_enter Try.func18, Try.ntmps18
  go_wp2
  all_goals first
    | (exfalso; have := G.out; omega)
    | (go_ret2; exact ⟨rfl, rfl⟩)
theorem linkState_any (b : Nat) (x : Pl.Lk) (w : World) (hg : LinkAt w b x) :
    Calls Try.prog 22 #[.pointer (some ⟨b, 0, none⟩)] w fun e w' => e = .returned (.int .i64 x.state) ∧ w = w' := by
  have k3 := obj_cell hg (k := 3) rfl
  go_enter Try.func22, Try.ntmps22
  go_wp2
  go_ret
  exact ⟨rfl, rfl⟩
theorem linkOther_any (b : Nat) (x : Pl.Lk) (w : World) (hg : LinkAt w b x) :
    Calls Try.prog 23 #[.pointer (some ⟨b, 0, none⟩)] w fun e w' => e = .returned (.int .i64 x.other) ∧ w = w' := by
  have k2 := obj_cell hg (k := 2) rfl
  go_enter Try.func23, Try.ntmps23
  go_wp2
  go_ret
  exact ⟨rfl, rfl⟩

theorem MsgAt.new5 (w : World) (b : Nat) (now k s o : Int) : MsgAt ((w.setCell ⟨b, 5, none⟩ (.int .i64 now)).alloc (.cells #[.int .i64 k, .int .i64 s, .int .i64 o] 3)) w.heap.size k s o := by
  have h := obj_new (w.setCell ⟨b, 5, none⟩ (.int .i64 now)) (.cells #[.int .i64 k, .int .i64 s, .int .i64 o] 3)
  have e : (w.setCell ⟨b, 5, none⟩ (.int .i64 now)).heap.size = w.heap.size := by simp
  rw [e] at h
  exact h
/-- what is said: its last number -/
def Pl.sayO (k o : Int) : Int := if k = 1 then 0 else o
theorem linkSay_any (b : Nat) (x : Pl.Lk) (k now : Int) (w : World) (hg : LinkAt w b x) :
    Calls Try.prog 34 #[.pointer (some ⟨b, 0, none⟩), .int .i64 k, .int .i64 now] w fun e w' => ∃ g, e = .returned (.slice (some ⟨g, 0, none⟩) 3 3) ∧ w.heap.size ≤ g ∧ MsgAt w' g k x.me (Pl.sayO k x.other) ∧ LinkAt w' b { x with sent := now } ∧ KeepsBut b w w' := by
  have k1 := obj_cell hg (k := 1) rfl
  have k2 := obj_cell hg (k := 2) rfl
  have k5 := obj_cell hg (k := 5) rfl
  have f5 := obj_free hg 5
  have hb := lt_of_block hg
  by_cases h : k = 1
  · subst h
    go_enter Try.func34, Try.ntmps34
    go_wp2
    go_ret
    exact ⟨_, rfl, Nat.le_refl _, MsgAt.new5 w b now 1 x.me (Pl.sayO 1 x.other), obj_old (obj_set hg 5 _) _, Keeps.alloc ((KeepsBut.refl b w).set _ _) _⟩
  · have e := Lib.hid (show Pl.sayO k x.other = x.other by simp [Pl.sayO, h])
    have hd : (k == 1) = false := by simpa using h
    clear h
    go_enter Try.func34, Try.ntmps34
    go_wp2
    go_region
    go_wp2
    go_ret
    exact ⟨_, rfl, Nat.le_refl _, by rw [e.out]; exact MsgAt.new5 w b now k x.me x.other, obj_old (obj_set hg 5 _) _, Keeps.drew (Keeps.alloc ((KeepsBut.refl b w).set _ _) _)⟩

theorem LinkAt.other {a c : World} {b N : Nat} {x : Pl.Lk} (h : LinkAt a b x) (k : KeepsBut N a c) (hn : b ≠ N) : LinkAt c b x := Keeps.heap k h hn
theorem MsgAt.other {a c : World} {g N : Nat} {k s o : Int} (h : MsgAt a g k s o) (kk : KeepsBut N a c) (hn : g ≠ N) : MsgAt c g k s o := Keeps.heap kk h hn
theorem LinkAt.set0 {w : World} {b : Nat} {x : Pl.Lk} (h : LinkAt w b x) (v : Int) : LinkAt (w.setCell ⟨b, 0, none⟩ (.int .i64 v)) b { x with now := v } := obj_set h 0 _
theorem LinkAt.set3 {w : World} {b : Nat} {x : Pl.Lk} (h : LinkAt w b x) (v : Int) : LinkAt (w.setCell ⟨b, 3, none⟩ (.int .i64 v)) b { x with state := v } := obj_set h 3 _

/-- a message may be -/
def Pl.msgOk (k s o : Int) : Prop := 1 ≤ k ∧ k ≤ 3 ∧ 1 ≤ s ∧ s ≤ 1000000 ∧ 0 ≤ o ∧ o ≤ 1000000
def Pl.Lk.tick (x : Pl.Lk) (now : Int) : Pl.Lk := { x with now := now }
theorem MsgAt.below {a c : World} {g B : Nat} {k s o : Int} (h : MsgAt a g k s o) (kk : Below B a c) (hn : g < B) : MsgAt c g k s o := Below.heapAt kk h hn
theorem LinkAt.below {a c : World} {b B : Nat} {x : Pl.Lk} (h : LinkAt a b x) (kk : Below B a c) (hn : b < B) : LinkAt c b x := Below.heapAt kk h hn

set_option maxRecDepth 100000 in
set_option maxHeartbeats 1000000 in
theorem linkOpen_ok (b : Nat) (x : Pl.Lk) (now : Int) (hc : Pl.clockOk x.now now) (hs : x.state ≠ 2) (w : World) (hg : LinkAt w b x) :
    Calls Try.prog 19 #[.pointer (some ⟨b, 0, none⟩), .int .i64 now] w fun e w' => ∃ g, e = .returned (.tuple #[.slice (some ⟨g, 0, none⟩) 3 3, .nilIface]) ∧ w.heap.size ≤ g ∧ MsgAt w' g 1 x.me 0 ∧ LinkAt w' b { x with now := now, state := 1, sent := now } ∧ KeepsBut b w w' := by
  have k0 := obj_cell hg (k := 0) rfl
  have k3 := obj_cell hg (k := 3) rfl
  have f0 := obj_free hg 0
  have f3 := obj_free hg 3
  have hd : (x.state == 2) = false := by simpa using hs
  clear hs
  go_enter Try.func19, Try.ntmps19
  go_wp2_with fail
  refine (clockCheck_ok b 0 x.now now hc _ k0).mono ?_
  rintro e w' ⟨rfl, rfl⟩
  go_wp2_with fail
  refine (clockSet_any b 0 now _ _ k0 f0).mono ?_
  rintro e w1 ⟨rfl, rfl⟩
  go_wp2_with fail
  refine (linkSay_any b { x with now := now, state := 1 } 1 now _ (LinkAt.set3 (LinkAt.set0 hg now) 1)).mono ?_
  rintro e w2 ⟨g, rfl, hgs, m, gl, kk⟩
  go_wp2
  go_ret2
  exact ⟨g, rfl, by simpa using hgs, m, gl, Keeps.trans (KeepsBut.set (KeepsBut.set (KeepsBut.refl _ _) _ _) _ _) (kk.mono (fun _ _ h => h))⟩

set_option maxRecDepth 100000 in
set_option maxHeartbeats 1000000 in
theorem linkCheck_ok (g : Nat) (k s o : Int) (h : Pl.msgOk k s o) (w : World) (hm : MsgAt w g k s o) :
    Calls Try.prog 35 #[.slice (some ⟨g, 0, none⟩) 3 3] w fun e w' => e = .returned .nilIface ∧ w = w' := by
  obtain ⟨h1, h2, h3, h4, h5, h6⟩ := h
  have m0 := obj_cell hm (k := 0) rfl
  have m1 := obj_cell hm (k := 1) rfl
  have m2 := obj_cell hm (k := 2) rfl
  go_enter Try.func35, Try.ntmps35
  go_wp2
  go_ret
  exact ⟨rfl, rfl⟩

/-- a side that has heard from s -/
def Pl.Lk.warm (x : Pl.Lk) (now s sent : Int) : Pl.Lk := ⟨now, x.me, s, 2, now, sent⟩
theorem LinkAt.warmed {w : World} {b : Nat} {x : Pl.Lk} (h : LinkAt w b x) (now s : Int) :
    LinkAt ((((w.setCell ⟨b, 0, none⟩ (.int .i64 now)).setCell ⟨b, 3, none⟩ (.int .i64 2)).setCell ⟨b, 2, none⟩ (.int .i64 s)).setCell ⟨b, 4, none⟩ (.int .i64 now)) b (x.warm now s x.sent) := obj_set (obj_set (obj_set (obj_set h 0 _) 3 _) 2 _) 4 _

set_option maxRecDepth 100000 in
set_option maxHeartbeats 2000000 in
/-- a message of the other one, Warm already: 'alive' -/
theorem linkHear_alive (b g : Nat) (x : Pl.Lk) (now : Int) (hc : Pl.clockOk x.now now) (hst : x.state = 2) (hmsg : Pl.msgOk 3 x.other x.me) (w : World) (hg : LinkAt w b x) (hm : MsgAt w g 3 x.other x.me) (hne : g ≠ b) :
    Calls Try.prog 20 #[.pointer (some ⟨b, 0, none⟩), .slice (some ⟨g, 0, none⟩) 3 3, .int .i64 now] w fun e w' => e = .returned (.tuple #[.slice none 0 0, .nilIface]) ∧ LinkAt w' b (x.warm now x.other x.sent) ∧ KeepsBut b w w' := by
  have k0 := obj_cell hg (k := 0) rfl
  have f0 := obj_free hg 0
  go_enter Try.func20, Try.ntmps20
  go_wp2_with fail
  refine (clockCheck_ok b 0 x.now now hc _ k0).mono ?_
  rintro e w' ⟨rfl, rfl⟩
  go_wp2_with fail
  refine (linkCheck_ok g 3 x.other x.me hmsg _ hm).mono ?_
  rintro e w' ⟨rfl, rfl⟩
  go_wp2_with fail
  refine (clockSet_any b 0 now _ _ k0 f0).mono ?_
  rintro e w1 ⟨rfl, rfl⟩
  clear k0 f0
  go_upto_region 8 with fail
  refine abs_at (fun y => LinkAt y b { x with now := now } ∧ MsgAt y g 3 x.other x.me ∧ KeepsBut b w y) ⟨LinkAt.set0 hg now, MsgAt.other hm (KeepsBut.set (KeepsBut.refl _ _) _ _) hne, KeepsBut.set (KeepsBut.refl _ _) _ _⟩ ?_
  clear hg hm
  rintro wx ⟨hg, hm, kk⟩
  have m0 := obj_cell hm (k := 0) rfl
  have m1 := obj_cell hm (k := 1) rfl
  have m2 := obj_cell hm (k := 2) rfl
  have k1 := obj_cell hg (k := 1) rfl
  have k2 := obj_cell hg (k := 2) rfl
  have k3 := obj_cell hg (k := 3) rfl
  have k4 := obj_cell hg (k := 4) rfl
  have f2 := obj_free hg 2
  have f3 := obj_free hg 3
  have f4 := obj_free hg 4
  have hd : (x.state == 2) = true := by simpa using hst
  clear hst
  simp only [] at k1 k2 k3 k4
  go_wp2_with fail
  go_quiet (fail)
  go_wp2_with fail
  go_quiet (fail)
  go_wp2_with fail
  go_quiet (fail)
  go_upto_region 15 with fail
  refine abs_at (fun y => LinkAt y b (x.warm now x.other x.sent) ∧ MsgAt y g 3 x.other x.me ∧ KeepsBut b w y) ⟨obj_set (obj_set (obj_set hg 3 _) 2 _) 4 _, MsgAt.other hm (KeepsBut.set (KeepsBut.set (KeepsBut.set (Keeps.drewN (KeepsBut.refl _ _) _) _ _) _ _) _ _) hne, KeepsBut.set (KeepsBut.set (KeepsBut.set (Keeps.drewN kk _) _ _) _ _) _ _⟩ ?_
  clear hg hm kk m0 m1 m2 k1 k2 k3 k4 f2 f3 f4
  rintro wy ⟨hg, hm, kk⟩
  have m0 := obj_cell hm (k := 0) rfl
  go_wp2
  go_ret2
  exact ⟨rfl, hg, kk⟩

set_option maxRecDepth 100000 in
set_option maxHeartbeats 2000000 in
/-- 'hello', not Warm -/
theorem linkHear_hello (b g : Nat) (x : Pl.Lk) (now s : Int) (hc : Pl.clockOk x.now now) (hst : x.state ≠ 2) (hmsg : Pl.msgOk 1 s 0) (w : World) (hg : LinkAt w b x) (hm : MsgAt w g 1 s 0) (hne : g ≠ b) :
    Calls Try.prog 20 #[.pointer (some ⟨b, 0, none⟩), .slice (some ⟨g, 0, none⟩) 3 3, .int .i64 now] w fun e w' => ∃ g', e = .returned (.tuple #[.slice (some ⟨g', 0, none⟩) 3 3, .nilIface]) ∧ w.heap.size ≤ g' ∧ MsgAt w' g' 2 x.me s ∧ LinkAt w' b (x.warm now s now) ∧ KeepsBut b w w' := by
  have k0 := obj_cell hg (k := 0) rfl
  have f0 := obj_free hg 0
  go_enter Try.func20, Try.ntmps20
  go_wp2_with fail
  refine (clockCheck_ok b 0 x.now now hc _ k0).mono ?_
  rintro e w' ⟨rfl, rfl⟩
  go_wp2_with fail
  refine (linkCheck_ok g 1 s 0 hmsg _ hm).mono ?_
  rintro e w' ⟨rfl, rfl⟩
  go_wp2_with fail
  refine (clockSet_any b 0 now _ _ k0 f0).mono ?_
  rintro e w1 ⟨rfl, rfl⟩
  clear k0 f0
  go_upto_region 8 with fail
  refine abs_at (fun y => LinkAt y b { x with now := now } ∧ MsgAt y g 1 s 0 ∧ KeepsBut b w y) ⟨LinkAt.set0 hg now, MsgAt.other hm (KeepsBut.set (KeepsBut.refl _ _) _ _) hne, KeepsBut.set (KeepsBut.refl _ _) _ _⟩ ?_
  clear hg hm
  rintro wx ⟨hg, hm, kk⟩
  have m0 := obj_cell hm (k := 0) rfl
  have m1 := obj_cell hm (k := 1) rfl
  have m2 := obj_cell hm (k := 2) rfl
  have k1 := obj_cell hg (k := 1) rfl
  have k2 := obj_cell hg (k := 2) rfl
  have k3 := obj_cell hg (k := 3) rfl
  have k4 := obj_cell hg (k := 4) rfl
  have f2 := obj_free hg 2
  have f3 := obj_free hg 3
  have f4 := obj_free hg 4
  have hd : (x.state == 2) = false := by simpa using hst
  clear hst
  simp only [] at k1 k2 k3 k4
  go_wp2_with fail
  go_quiet (fail)
  go_wp2_with fail
  go_quiet (fail)
  go_wp2_with fail
  go_quiet (fail)
  go_upto_region 15 with fail
  refine abs_at (fun y => LinkAt y b (x.warm now s x.sent) ∧ MsgAt y g 1 s 0 ∧ KeepsBut b w y) ⟨obj_set (obj_set (obj_set hg 3 _) 2 _) 4 _, MsgAt.other hm (KeepsBut.set (KeepsBut.set (KeepsBut.set (Keeps.drewN (KeepsBut.refl _ _) _) _ _) _ _) _ _) hne, KeepsBut.set (KeepsBut.set (KeepsBut.set (Keeps.drewN kk _) _ _) _ _) _ _⟩ ?_
  clear hg hm kk m0 m1 m2 k1 k2 k3 k4 f2 f3 f4
  rintro wy ⟨hg, hm, kk⟩
  have m0 := obj_cell hm (k := 0) rfl
  go_wp2_with fail
  refine (linkSay_any b (x.warm now s x.sent) 2 now _ hg).mono ?_
  rintro e w2 ⟨g2, rfl, hgs, m, gl, k2⟩
  go_wp2
  go_ret2
  have := kk.size
  exact ⟨g2, rfl, by omega, m, gl, Keeps.trans kk (k2.mono (fun _ _ h => h))⟩

set_option maxRecDepth 100000 in
set_option maxHeartbeats 2000000 in
/-- a reply to this one, not Warm -/
theorem linkHear_reply (b g : Nat) (x : Pl.Lk) (now s : Int) (hc : Pl.clockOk x.now now) (hst : x.state ≠ 2) (hmsg : Pl.msgOk 2 s x.me) (w : World) (hg : LinkAt w b x) (hm : MsgAt w g 2 s x.me) (hne : g ≠ b) :
    Calls Try.prog 20 #[.pointer (some ⟨b, 0, none⟩), .slice (some ⟨g, 0, none⟩) 3 3, .int .i64 now] w fun e w' => ∃ g', e = .returned (.tuple #[.slice (some ⟨g', 0, none⟩) 3 3, .nilIface]) ∧ w.heap.size ≤ g' ∧ MsgAt w' g' 3 x.me s ∧ LinkAt w' b (x.warm now s now) ∧ KeepsBut b w w' := by
  have k0 := obj_cell hg (k := 0) rfl
  have f0 := obj_free hg 0
  go_enter Try.func20, Try.ntmps20
  go_wp2_with fail
  refine (clockCheck_ok b 0 x.now now hc _ k0).mono ?_
  rintro e w' ⟨rfl, rfl⟩
  go_wp2_with fail
  refine (linkCheck_ok g 2 s x.me hmsg _ hm).mono ?_
  rintro e w' ⟨rfl, rfl⟩
  go_wp2_with fail
  refine (clockSet_any b 0 now _ _ k0 f0).mono ?_
  rintro e w1 ⟨rfl, rfl⟩
  clear k0 f0
  go_upto_region 8 with fail
  refine abs_at (fun y => LinkAt y b { x with now := now } ∧ MsgAt y g 2 s x.me ∧ KeepsBut b w y) ⟨LinkAt.set0 hg now, MsgAt.other hm (KeepsBut.set (KeepsBut.refl _ _) _ _) hne, KeepsBut.set (KeepsBut.refl _ _) _ _⟩ ?_
  clear hg hm
  rintro wx ⟨hg, hm, kk⟩
  have m0 := obj_cell hm (k := 0) rfl
  have m1 := obj_cell hm (k := 1) rfl
  have m2 := obj_cell hm (k := 2) rfl
  have k1 := obj_cell hg (k := 1) rfl
  have k2 := obj_cell hg (k := 2) rfl
  have k3 := obj_cell hg (k := 3) rfl
  have k4 := obj_cell hg (k := 4) rfl
  have f2 := obj_free hg 2
  have f3 := obj_free hg 3
  have f4 := obj_free hg 4
  have hd : (x.state == 2) = false := by simpa using hst
  clear hst
  simp only [] at k1 k2 k3 k4
  go_wp2_with fail
  go_quiet (fail)
  go_wp2_with fail
  go_quiet (fail)
  go_wp2_with fail
  go_quiet (fail)
  go_upto_region 15 with fail
  refine abs_at (fun y => LinkAt y b (x.warm now s x.sent) ∧ MsgAt y g 2 s x.me ∧ KeepsBut b w y) ⟨obj_set (obj_set (obj_set hg 3 _) 2 _) 4 _, MsgAt.other hm (KeepsBut.set (KeepsBut.set (KeepsBut.set (Keeps.drewN (KeepsBut.refl _ _) _) _ _) _ _) _ _) hne, KeepsBut.set (KeepsBut.set (KeepsBut.set (Keeps.drewN kk _) _ _) _ _) _ _⟩ ?_
  clear hg hm kk m0 m1 m2 k1 k2 k3 k4 f2 f3 f4
  rintro wy ⟨hg, hm, kk⟩
  have m0 := obj_cell hm (k := 0) rfl
  go_wp2_with fail
  refine (linkSay_any b (x.warm now s x.sent) 3 now _ hg).mono ?_
  rintro e w2 ⟨g2, rfl, hgs, m, gl, k2⟩
  go_wp2
  go_ret2
  have := kk.size
  exact ⟨g2, rfl, by omega, m, gl, Keeps.trans kk (k2.mono (fun _ _ h => h))⟩

set_option maxRecDepth 100000 in
set_option maxHeartbeats 2000000 in
/-- a tick, Warm; nothing is said -/
theorem linkTick_quiet (b : Nat) (x : Pl.Lk) (now : Int) (hc : Pl.clockOk x.now now) (hst : x.state = 2) (h1 : now - x.heard < 30) (h2 : now - x.sent < 10) (hx : 0 ≤ x.heard ∧ x.heard ≤ 1000000 ∧ 0 ≤ x.sent ∧ x.sent ≤ 1000000) (w : World) (hg : LinkAt w b x) :
    Calls Try.prog 21 #[.pointer (some ⟨b, 0, none⟩), .int .i64 now] w fun e w' => e = .returned (.tuple #[.slice none 0 0, .nilIface]) ∧ LinkAt w' b { x with now := now } ∧ KeepsBut b w w' := by
  have k0 := obj_cell hg (k := 0) rfl
  have f0 := obj_free hg 0
  obtain ⟨x1, x2, x3, x4⟩ := hx
  obtain ⟨n1, n2, n3⟩ := hc
  go_enter Try.func21, Try.ntmps21
  go_wp2_with fail
  refine (clockCheck_ok b 0 x.now now ⟨n1, n2, n3⟩ _ k0).mono ?_
  rintro e w' ⟨rfl, rfl⟩
  go_wp2_with fail
  refine (clockSet_any b 0 now _ _ k0 f0).mono ?_
  rintro e w1 ⟨rfl, rfl⟩
  clear k0 f0
  go_upto_region 5 with fail
  refine abs_at (fun y => LinkAt y b { x with now := now } ∧ KeepsBut b w y) ⟨LinkAt.set0 hg now, KeepsBut.set (KeepsBut.refl _ _) _ _⟩ ?_
  clear hg
  rintro wx ⟨hg, kk⟩
  have k3 := obj_cell hg (k := 3) rfl
  have k4 := obj_cell hg (k := 4) rfl
  have k5 := obj_cell hg (k := 5) rfl
  have hd : (x.state == 2) = true := by simpa using hst
  have hd0 : (x.state == 0) = false := by rw [hst]; rfl
  simp only [] at k3 k4 k5
  clear hst
  go_wp2
  go_ret2
  exact ⟨rfl, hg, kk⟩

set_option maxRecDepth 100000 in
set_option maxHeartbeats 2000000 in
/-- a tick, Warm; it says that it is there -/
theorem linkTick_say (b : Nat) (x : Pl.Lk) (now : Int) (hc : Pl.clockOk x.now now) (hst : x.state = 2) (h1 : now - x.heard < 30) (h2 : 10 ≤ now - x.sent) (hx : 0 ≤ x.heard ∧ x.heard ≤ 1000000 ∧ 0 ≤ x.sent ∧ x.sent ≤ 1000000) (w : World) (hg : LinkAt w b x) :
    Calls Try.prog 21 #[.pointer (some ⟨b, 0, none⟩), .int .i64 now] w fun e w' => ∃ g', e = .returned (.tuple #[.slice (some ⟨g', 0, none⟩) 3 3, .nilIface]) ∧ w.heap.size ≤ g' ∧ MsgAt w' g' 3 x.me x.other ∧ LinkAt w' b { x with now := now, sent := now } ∧ KeepsBut b w w' := by
  have k0 := obj_cell hg (k := 0) rfl
  have f0 := obj_free hg 0
  obtain ⟨x1, x2, x3, x4⟩ := hx
  obtain ⟨n1, n2, n3⟩ := hc
  go_enter Try.func21, Try.ntmps21
  go_wp2_with fail
  refine (clockCheck_ok b 0 x.now now ⟨n1, n2, n3⟩ _ k0).mono ?_
  rintro e w' ⟨rfl, rfl⟩
  go_wp2_with fail
  refine (clockSet_any b 0 now _ _ k0 f0).mono ?_
  rintro e w1 ⟨rfl, rfl⟩
  clear k0 f0
  go_upto_region 5 with fail
  refine abs_at (fun y => LinkAt y b { x with now := now } ∧ KeepsBut b w y) ⟨LinkAt.set0 hg now, KeepsBut.set (KeepsBut.refl _ _) _ _⟩ ?_
  clear hg
  rintro wx ⟨hg, kk⟩
  have k3 := obj_cell hg (k := 3) rfl
  have k4 := obj_cell hg (k := 4) rfl
  have k5 := obj_cell hg (k := 5) rfl
  have hd : (x.state == 2) = true := by simpa using hst
  have hd0 : (x.state == 0) = false := by rw [hst]; rfl
  simp only [] at k3 k4 k5
  clear hst
  go_wp2_with fail
  refine (linkSay_any b { x with now := now } 3 now _ hg).mono ?_
  rintro e w2 ⟨g2, rfl, hgs, m, gl, k2⟩
  go_wp2
  go_ret2
  have := kk.size
  exact ⟨g2, rfl, by omega, m, gl, Keeps.trans kk (k2.mono (fun _ _ h => h))⟩

end Go.Proofs.Ytanmokomefdaiaa
