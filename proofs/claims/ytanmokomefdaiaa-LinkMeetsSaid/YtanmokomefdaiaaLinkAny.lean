import Derived.Test.YtanmokomefdaiaaLinkHear
import Derived.Test.YtanmokomefdaiaaSlRows
import Derived.Test.YtanmokomefdaiaaPLink
/-! Contracts of link's Open, Hear, Tick: any time, any message (printed by wip/tools/gen_linkany2.py). -/
namespace Go.Proofs.Ytanmokomefdaiaa
open Go.RowKit
set_option linter.unusedVariables false
set_option linter.unusedSimpArgs false

/-- an error of number f; 0: nil -/
def Pl.errV (f : Int) : Value := if f = 0 then .nilIface else .iface 60 (.int .i64 f)
theorem Pl.errV_ne {f : Int} (h : f ≠ 0) : Pl.errV f = .iface 60 (.int .i64 f) := if_neg h
/-- a list that was just said, in a block at N or behind -/
def SaidAt (N : Nat) (w : World) (v : Value) (l : List Int) : Prop := (l = [] ∧ v = .slice none 0 0) ∨ ∃ g k s o, l = [k, s, o] ∧ N ≤ g ∧ v = .slice (some ⟨g, 0, none⟩) 3 3 ∧ MsgAt w g k s o
theorem SaidAt.sl {N : Nat} {w : World} {v : Value} {l : List Int} (h : SaidAt N w v l) : Sl encI w v l := by
  rcases h with ⟨rfl, rfl⟩ | ⟨g, k, s, o, rfl, hN, rfl, hm⟩
  · exact Sl.nil _
  · refine Sl.own hm rfl (Nat.le_refl _) (by decide) (fun i hi => ?_)
    match i, hi with
    | 0, _ => rfl
    | 1, _ => rfl
    | 2, _ => rfl
/-- what a call of a side does -/
def DidLink (w : World) (b : Nat) (r : Pl.Out) (e : Ending) (w' : World) : Prop := ∃ v', e = .returned (.tuple #[v', Pl.errV r.f]) ∧ LinkAt w' b r.x ∧ SaidAt w.heap.size w' v' r.l ∧ KeepsBut b w w'
theorem didlink_off {w w' : World} {b : Nat} {y : Pl.Lk} {e : Ending} (h : e = .returned (.tuple #[.slice none 0 0, .nilIface]) ∧ LinkAt w' b y ∧ KeepsBut b w w') : DidLink w b ⟨y, [], 0⟩ e w' :=
  ⟨_, h.1, h.2.1, .inl ⟨rfl, rfl⟩, h.2.2⟩
theorem didlink_fault {w w' : World} {b : Nat} {x : Pl.Lk} {e : Ending} {f : Int} (hf : f ≠ 0) (hg : LinkAt w b x) (h : e = .returned (.tuple #[.slice none 0 0, .iface 60 (.int .i64 f)]) ∧ w = w') : DidLink w b ⟨x, [], f⟩ e w' := by
  obtain ⟨h1, rfl⟩ := h
  exact ⟨_, by rw [h1, Pl.errV_ne hf], hg, .inl ⟨rfl, rfl⟩, KeepsBut.refl _ _⟩
theorem didlink_say {w w' : World} {b : Nat} {y : Pl.Lk} {e : Ending} {k a s : Int} (h : ∃ g', e = .returned (.tuple #[.slice (some ⟨g', 0, none⟩) 3 3, .nilIface]) ∧ w.heap.size ≤ g' ∧ MsgAt w' g' k a s ∧ LinkAt w' b y ∧ KeepsBut b w w') : DidLink w b ⟨y, [k, a, s], 0⟩ e w' := by
  obtain ⟨g, h1, h2, h3, h4, h5⟩ := h
  exact ⟨_, h1, h4, .inr ⟨g, k, a, s, rfl, h2, rfl, h3⟩, h5⟩
theorem Pl.Lk.hear3 {x : Pl.Lk} {k s o now : Int} (hc : Pl.clockOk x.now now) (h : Pl.msgOk k s o) : x.hear [k, s, o] now = x.msg k s o now := by
  simp [Pl.Lk.hear, Pl.timeF_ok hc, Pl.msgFault, h]
theorem Pl.Lk.hear_time {x : Pl.Lk} {m : List Int} {now : Int} (hc : ¬ Pl.clockOk x.now now) : x.hear m now = ⟨x, [], Pl.clockFault now⟩ := by
  unfold Pl.Lk.hear
  rw [Pl.timeF_bad hc, if_pos (Pl.clockFault_ne now)]
theorem Pl.Lk.hear_range {x : Pl.Lk} {k s o now : Int} (hc : Pl.clockOk x.now now) (h : ¬ Pl.msgOk k s o) : x.hear [k, s, o] now = ⟨x, [], 1⟩ := by
  simp [Pl.Lk.hear, Pl.timeF_ok hc, Pl.msgFault, h]
theorem Pl.Lk.hear_shape {x : Pl.Lk} {m : List Int} {now : Int} (hc : Pl.clockOk x.now now) (h : m.length ≠ 3) : x.hear m now = ⟨x, [], 3⟩ := by
  unfold Pl.Lk.hear
  have e : Pl.msgFault m = 3 := by
    unfold Pl.msgFault
    split
    · simp at h
    · rfl
  rw [Pl.timeF_ok hc, e]
  simp
theorem list_three {α : Type} {l : List α} (h : l.length = 3) : ∃ a b c, l = [a, b, c] := by
  match l, h with
  | [a, b, c], _ => exact ⟨a, b, c, rfl⟩
theorem Sl.three {w : World} {v : Value} {k s o : Int} (h : Sl encI w v [k, s, o]) : ∃ g off c, v = .slice (some ⟨g, off, none⟩) 3 c ∧ MsgIn w g off k s o := by
  rcases h with ⟨h, _⟩ | ⟨b, off, cap, rfl, h1, h2, h3⟩
  · cases h
  · exact ⟨b, off, cap, rfl, h3 0 (by simp), h3 1 (by simp), h3 2 (by simp)⟩
/-- the slice's block is not b -/
def Away (v : Value) (b : Nat) : Prop := ∀ g off c, v = .slice (some ⟨g, off, none⟩) 3 c → g ≠ b
theorem SaidAt.away {N : Nat} {w : World} {v : Value} {l : List Int} (h : SaidAt N w v l) {b : Nat} (hb : b < N) : Away v b := by
  rintro g off c e rfl
  rcases h with ⟨rfl, rfl⟩ | ⟨g, k, s, o, rfl, hN, rfl, hm⟩
  · cases e
  · cases e; omega

set_option maxRecDepth 100000 in
set_option maxHeartbeats 2000000 in
theorem linkHear_any (b : Nat) (x : Pl.Lk) (m : List Int) (v : Value) (now : Int) (w : World) (hg : LinkAt w b x) (hm : Sl encI w v m) (hv : Away v b) :
    Calls Try.prog 20 #[.pointer (some ⟨b, 0, none⟩), v, .int .i64 now] w fun e w' => DidLink w b (x.hear m now) e w' := by
  by_cases hc : Pl.clockOk x.now now
  case neg =>
    rw [Pl.Lk.hear_time hc]
    exact (linkHear_time b x now v hc w hg).mono fun e w' h => didlink_fault (Pl.clockFault_ne now) hg h
  by_cases h3 : m.length = 3
  case neg =>
    rw [Pl.Lk.hear_shape hc h3]
    obtain ⟨b1, o1, c1, oa1, rfl, _, _⟩ := hm.shape
    exact (linkHear_shape b x now oa1 m.length c1 h3 hc w hg).mono fun e w' h => didlink_fault (by decide) hg h
  obtain ⟨k, s, o, rfl⟩ := list_three h3
  obtain ⟨g, off, c, rfl, mi⟩ := hm.three
  have hne := hv g off c rfl
  by_cases hk : Pl.msgOk k s o
  case neg =>
    rw [Pl.Lk.hear_range hc hk]
    exact (linkHear_range b g off c x now k s o hk hc w hg mi).mono fun e w' h => didlink_fault (by decide) hg h
  rw [Pl.Lk.hear3 hc hk]
  have hk' := hk
  obtain ⟨q1, q2, _⟩ := hk'
  obtain rfl | rfl | rfl : k = 1 ∨ k = 2 ∨ k = 3 := by omega
  · cases hd : (x.state == 2)
    · have d1 : x.state ≠ 2 := by simpa using hd
      rw [show x.msg 1 s o now = ⟨x.warm now s now, [2, x.me, s], 0⟩ from by unfold Pl.Lk.msg; rw [if_neg (by unfold Pl.Lk.off; omega), if_pos rfl]]
      exact (linkHear_1cold b g off c x now s o hc hd hk w hg mi hne).mono fun e w' h => didlink_say h
    · have d1 : x.state = 2 := by simpa using hd
      cases hl : decide (s < x.other)
      · have d3 : ¬ s < x.other := by simpa using hl
        rw [show x.msg 1 s o now = ⟨x.warm now s now, [2, x.me, s], 0⟩ from by unfold Pl.Lk.msg; rw [if_neg (by unfold Pl.Lk.off; omega), if_pos rfl]]
        exact (linkHear_1warm b g off c x now s o hc hd hl hk w hg mi hne).mono fun e w' h => didlink_say h
      · have d3 : s < x.other := by simpa using hl
        rw [show x.msg 1 s o now = ⟨x.tick now, [], 0⟩ from if_pos (by unfold Pl.Lk.off; omega)]
        exact (linkHear_1old b g off c x now s o hc hd hl hk w hg mi hne).mono fun e w' h => didlink_off h
  · cases ho : (o == x.me)
    · have d2 : o ≠ x.me := by simpa using ho
      cases hd : (x.state == 2)
      · have d1 : x.state ≠ 2 := by simpa using hd
        rw [show x.msg 2 s o now = ⟨x.tick now, [], 0⟩ from if_pos (by unfold Pl.Lk.off; omega)]
        exact (linkHear_2not0 b g off c x now s o hc hd ho hk w hg mi hne).mono fun e w' h => didlink_off h
      · have d1 : x.state = 2 := by simpa using hd
        rw [show x.msg 2 s o now = ⟨x.tick now, [], 0⟩ from if_pos (by unfold Pl.Lk.off; omega)]
        exact (linkHear_2not1 b g off c x now s o hc hd ho hk w hg mi hne).mono fun e w' h => didlink_off h
    · have d2 : o = x.me := by simpa using ho
      cases hd : (x.state == 2)
      · have d1 : x.state ≠ 2 := by simpa using hd
        rw [show x.msg 2 s o now = ⟨x.warm now s now, [3, x.me, s], 0⟩ from by unfold Pl.Lk.msg; rw [if_neg (by unfold Pl.Lk.off; omega), if_neg (by decide), if_pos (by omega)]]
        exact (linkHear_2cold b g off c x now s o hc hd ho hk w hg mi hne).mono fun e w' h => didlink_say h
      · have d1 : x.state = 2 := by simpa using hd
        cases hl : decide (s < x.other)
        · have d3 : ¬ s < x.other := by simpa using hl
          cases he : (s == x.other)
          · have d4 : s ≠ x.other := by simpa using he
            rw [show x.msg 2 s o now = ⟨x.warm now s now, [3, x.me, s], 0⟩ from by unfold Pl.Lk.msg; rw [if_neg (by unfold Pl.Lk.off; omega), if_neg (by decide), if_pos (by omega)]]
            exact (linkHear_2new b g off c x now s o hc hd ho hl he hk w hg mi hne).mono fun e w' h => didlink_say h
          · have d4 : s = x.other := by simpa using he
            rw [show x.msg 2 s o now = ⟨x.warm now s x.sent, [], 0⟩ from by unfold Pl.Lk.msg; rw [if_neg (by unfold Pl.Lk.off; omega), if_neg (by decide), if_neg (by omega)]]
            exact (linkHear_2same b g off c x now s o hc hd ho hl he hk w hg mi hne).mono fun e w' h => didlink_off h
        · have d3 : s < x.other := by simpa using hl
          rw [show x.msg 2 s o now = ⟨x.tick now, [], 0⟩ from if_pos (by unfold Pl.Lk.off; omega)]
          exact (linkHear_2old b g off c x now s o hc hd ho hl hk w hg mi hne).mono fun e w' h => didlink_off h
  · cases ho : (o == x.me)
    · have d2 : o ≠ x.me := by simpa using ho
      cases hd : (x.state == 2)
      · have d1 : x.state ≠ 2 := by simpa using hd
        rw [show x.msg 3 s o now = ⟨x.tick now, [], 0⟩ from if_pos (by unfold Pl.Lk.off; omega)]
        exact (linkHear_3not0 b g off c x now s o hc hd ho hk w hg mi hne).mono fun e w' h => didlink_off h
      · have d1 : x.state = 2 := by simpa using hd
        rw [show x.msg 3 s o now = ⟨x.tick now, [], 0⟩ from if_pos (by unfold Pl.Lk.off; omega)]
        exact (linkHear_3not1 b g off c x now s o hc hd ho hk w hg mi hne).mono fun e w' h => didlink_off h
    · have d2 : o = x.me := by simpa using ho
      cases hd : (x.state == 2)
      · have d1 : x.state ≠ 2 := by simpa using hd
        rw [show x.msg 3 s o now = ⟨x.tick now, [], 0⟩ from if_pos (by unfold Pl.Lk.off; omega)]
        exact (linkHear_3cold b g off c x now s o hc hd ho hk w hg mi hne).mono fun e w' h => didlink_off h
      · have d1 : x.state = 2 := by simpa using hd
        cases he : (s == x.other)
        · have d4 : s ≠ x.other := by simpa using he
          rw [show x.msg 3 s o now = ⟨x.tick now, [], 0⟩ from if_pos (by unfold Pl.Lk.off; omega)]
          exact (linkHear_3other b g off c x now s o hc hd ho he hk w hg mi hne).mono fun e w' h => didlink_off h
        · have d4 : s = x.other := by simpa using he
          rw [show x.msg 3 s o now = ⟨x.warm now s x.sent, [], 0⟩ from by unfold Pl.Lk.msg; rw [if_neg (by unfold Pl.Lk.off; omega), if_neg (by decide), if_neg (by omega)]]
          exact (linkHear_3same b g off c x now s o hc hd ho he hk w hg mi hne).mono fun e w' h => didlink_off h

theorem linkOpen_time (b : Nat) (x : Pl.Lk) (now : Int) (hc : ¬ Pl.clockOk x.now now) (w : World) (hg : LinkAt w b x) :
    Calls Try.prog 19 #[.pointer (some ⟨b, 0, none⟩), .int .i64 now] w fun e w' => e = .returned (.tuple #[.slice none 0 0, .iface 60 (.int .i64 (Pl.clockFault now))]) ∧ w = w' := by
  have k0 := obj_cell hg (k := 0) rfl
  go_enter Try.func19, Try.ntmps19
  go_wp2_with fail
  refine (clockCheck_bad b 0 x.now now hc _ k0).mono ?_
  rintro e w' ⟨rfl, rfl⟩
  go_wp2
  go_ret2
  exact ⟨rfl, rfl⟩
theorem linkOpen_state (b : Nat) (x : Pl.Lk) (now : Int) (hc : Pl.clockOk x.now now) (hs : (x.state == 2) = true) (w : World) (hg : LinkAt w b x) :
    Calls Try.prog 19 #[.pointer (some ⟨b, 0, none⟩), .int .i64 now] w fun e w' => e = .returned (.tuple #[.slice none 0 0, .iface 60 (.int .i64 6)]) ∧ w = w' := by
  have k0 := obj_cell hg (k := 0) rfl
  have k3 := obj_cell hg (k := 3) rfl
  go_enter Try.func19, Try.ntmps19
  go_wp2_with fail
  refine (clockCheck_ok b 0 x.now now hc _ k0).mono ?_
  rintro e w' ⟨rfl, rfl⟩
  go_wp2
  go_ret2
  exact ⟨rfl, rfl⟩
theorem linkOpen_any (b : Nat) (x : Pl.Lk) (now : Int) (w : World) (hg : LinkAt w b x) :
    Calls Try.prog 19 #[.pointer (some ⟨b, 0, none⟩), .int .i64 now] w fun e w' => DidLink w b (x.open_ now) e w' := by
  by_cases hc : Pl.clockOk x.now now
  case neg =>
    rw [show x.open_ now = ⟨x, [], Pl.clockFault now⟩ from by unfold Pl.Lk.open_; rw [Pl.timeF_bad hc, if_pos (Pl.clockFault_ne now)]]
    exact (linkOpen_time b x now hc w hg).mono fun e w' h => didlink_fault (Pl.clockFault_ne now) hg h
  by_cases hs : x.state = 2
  · rw [show x.open_ now = ⟨x, [], 6⟩ from by unfold Pl.Lk.open_; rw [Pl.timeF_ok hc, if_neg (by simp), if_pos hs]]
    exact (linkOpen_state b x now hc (by simpa using hs) w hg).mono fun e w' h => didlink_fault (by decide) hg h
  · rw [show x.open_ now = ⟨{ x with now := now, state := 1, sent := now }, [1, x.me, 0], 0⟩ from by unfold Pl.Lk.open_; rw [Pl.timeF_ok hc, if_neg (by simp), if_neg hs]]
    exact (linkOpen_ok b x now hc hs w hg).mono fun e w' h => didlink_say h

theorem linkTick_time (b : Nat) (x : Pl.Lk) (now : Int) (hc : ¬ Pl.clockOk x.now now) (w : World) (hg : LinkAt w b x) :
    Calls Try.prog 21 #[.pointer (some ⟨b, 0, none⟩), .int .i64 now] w fun e w' => e = .returned (.tuple #[.slice none 0 0, .iface 60 (.int .i64 (Pl.clockFault now))]) ∧ w = w' := by
  have k0 := obj_cell hg (k := 0) rfl
  go_enter Try.func21, Try.ntmps21
  go_wp2_with fail
  refine (clockCheck_bad b 0 x.now now hc _ k0).mono ?_
  rintro e w' ⟨rfl, rfl⟩
  go_wp2
  go_ret2
  exact ⟨rfl, rfl⟩
set_option maxRecDepth 100000 in
set_option maxHeartbeats 2000000 in
theorem linkTick_dead (b : Nat) (x : Pl.Lk) (now : Int) (hc : Pl.clockOk x.now now) (hd : (x.state == 2) = true) (h1 : 30 ≤ now - x.heard) (hx : 0 ≤ x.heard ∧ x.heard ≤ 1000000 ∧ 0 ≤ x.sent ∧ x.sent ≤ 1000000) (w : World) (hg : LinkAt w b x) :
    Calls Try.prog 21 #[.pointer (some ⟨b, 0, none⟩), .int .i64 now] w fun e w' => e = .returned (.tuple #[.slice none 0 0, .nilIface]) ∧ LinkAt w' b { x with now := now, state := 0, other := 0 } ∧ KeepsBut b w w' := by
  have k0 := obj_cell hg (k := 0) rfl
  have f0 := obj_free hg 0
  obtain ⟨x1, x2, x3, x4⟩ := hx
  obtain ⟨n1, n2, n3⟩ := hc
  go_enter Try.func21, Try.ntmps21
  go_wp2_with fail
  refine (clockCheck_ok b 0 x.now now ⟨n1, n2, n3⟩ _ k0).mono ?_
  rintro e w' ⟨rfl, rfl⟩
  go_wp2_with fail
  refine (clockSet_any b 0 now _ _ k0 f0).mono ?_
  rintro e w1 ⟨rfl, rfl⟩
  clear k0 f0
  go_upto_region 5 with fail
  refine abs_at (fun y => LinkAt y b { x with now := now } ∧ KeepsBut b w y) ⟨LinkAt.set0 hg now, KeepsBut.set (KeepsBut.refl _ _) _ _⟩ ?_
  clear hg
  rintro wx ⟨hg, kk⟩
  have k2 := obj_cell hg (k := 2) rfl
  have k3 := obj_cell hg (k := 3) rfl
  have k4 := obj_cell hg (k := 4) rfl
  have k5 := obj_cell hg (k := 5) rfl
  have f2 := obj_free hg 2
  have f3 := obj_free hg 3
  simp only [] at k2 k3 k4 k5
  go_wp2
  go_ret2
  exact ⟨rfl, obj_set (obj_set hg 3 _) 2 _, KeepsBut.set (KeepsBut.set kk _ _) _ _⟩
set_option maxRecDepth 100000 in
set_option maxHeartbeats 2000000 in
theorem linkTick_cold (b : Nat) (x : Pl.Lk) (now : Int) (hc : Pl.clockOk x.now now) (hd : (x.state == 2) = false) (hd0 : (x.state == 0) = true) (hx : 0 ≤ x.heard ∧ x.heard ≤ 1000000 ∧ 0 ≤ x.sent ∧ x.sent ≤ 1000000) (w : World) (hg : LinkAt w b x) :
    Calls Try.prog 21 #[.pointer (some ⟨b, 0, none⟩), .int .i64 now] w fun e w' => e = .returned (.tuple #[.slice none 0 0, .nilIface]) ∧ LinkAt w' b (x.tick now) ∧ KeepsBut b w w' := by
  have k0 := obj_cell hg (k := 0) rfl
  have f0 := obj_free hg 0
  obtain ⟨x1, x2, x3, x4⟩ := hx
  obtain ⟨n1, n2, n3⟩ := hc
  go_enter Try.func21, Try.ntmps21
  go_wp2_with fail
  refine (clockCheck_ok b 0 x.now now ⟨n1, n2, n3⟩ _ k0).mono ?_
  rintro e w' ⟨rfl, rfl⟩
  go_wp2_with fail
  refine (clockSet_any b 0 now _ _ k0 f0).mono ?_
  rintro e w1 ⟨rfl, rfl⟩
  clear k0 f0
  go_upto_region 5 with fail
  refine abs_at (fun y => LinkAt y b { x with now := now } ∧ KeepsBut b w y) ⟨LinkAt.set0 hg now, KeepsBut.set (KeepsBut.refl _ _) _ _⟩ ?_
  clear hg
  rintro wx ⟨hg, kk⟩
  have k2 := obj_cell hg (k := 2) rfl
  have k3 := obj_cell hg (k := 3) rfl
  have k4 := obj_cell hg (k := 4) rfl
  have k5 := obj_cell hg (k := 5) rfl
  have f2 := obj_free hg 2
  have f3 := obj_free hg 3
  simp only [] at k2 k3 k4 k5
  go_wp2
  go_ret2
  exact ⟨rfl, hg, kk⟩
set_option maxRecDepth 100000 in
set_option maxHeartbeats 2000000 in
theorem linkTick_said (b : Nat) (x : Pl.Lk) (now : Int) (hc : Pl.clockOk x.now now) (hd : (x.state == 2) = false) (hd0 : (x.state == 0) = false) (h1 : now - x.sent < 10) (hx : 0 ≤ x.heard ∧ x.heard ≤ 1000000 ∧ 0 ≤ x.sent ∧ x.sent ≤ 1000000) (w : World) (hg : LinkAt w b x) :
    Calls Try.prog 21 #[.pointer (some ⟨b, 0, none⟩), .int .i64 now] w fun e w' => e = .returned (.tuple #[.slice none 0 0, .nilIface]) ∧ LinkAt w' b (x.tick now) ∧ KeepsBut b w w' := by
  have k0 := obj_cell hg (k := 0) rfl
  have f0 := obj_free hg 0
  obtain ⟨x1, x2, x3, x4⟩ := hx
  obtain ⟨n1, n2, n3⟩ := hc
  go_enter Try.func21, Try.ntmps21
  go_wp2_with fail
  refine (clockCheck_ok b 0 x.now now ⟨n1, n2, n3⟩ _ k0).mono ?_
  rintro e w' ⟨rfl, rfl⟩
  go_wp2_with fail
  refine (clockSet_any b 0 now _ _ k0 f0).mono ?_
  rintro e w1 ⟨rfl, rfl⟩
  clear k0 f0
  go_upto_region 5 with fail
  refine abs_at (fun y => LinkAt y b { x with now := now } ∧ KeepsBut b w y) ⟨LinkAt.set0 hg now, KeepsBut.set (KeepsBut.refl _ _) _ _⟩ ?_
  clear hg
  rintro wx ⟨hg, kk⟩
  have k2 := obj_cell hg (k := 2) rfl
  have k3 := obj_cell hg (k := 3) rfl
  have k4 := obj_cell hg (k := 4) rfl
  have k5 := obj_cell hg (k := 5) rfl
  have f2 := obj_free hg 2
  have f3 := obj_free hg 3
  simp only [] at k2 k3 k4 k5
  go_wp2
  go_ret2
  exact ⟨rfl, hg, kk⟩
set_option maxRecDepth 100000 in
set_option maxHeartbeats 2000000 in
theorem linkTick_hello (b : Nat) (x : Pl.Lk) (now : Int) (hc : Pl.clockOk x.now now) (hd : (x.state == 2) = false) (hd0 : (x.state == 0) = false) (h1 : 10 ≤ now - x.sent) (hx : 0 ≤ x.heard ∧ x.heard ≤ 1000000 ∧ 0 ≤ x.sent ∧ x.sent ≤ 1000000) (w : World) (hg : LinkAt w b x) :
    Calls Try.prog 21 #[.pointer (some ⟨b, 0, none⟩), .int .i64 now] w fun e w' => ∃ g', e = .returned (.tuple #[.slice (some ⟨g', 0, none⟩) 3 3, .nilIface]) ∧ w.heap.size ≤ g' ∧ MsgAt w' g' 1 x.me 0 ∧ LinkAt w' b { x with now := now, sent := now } ∧ KeepsBut b w w' := by
  have k0 := obj_cell hg (k := 0) rfl
  have f0 := obj_free hg 0
  obtain ⟨x1, x2, x3, x4⟩ := hx
  obtain ⟨n1, n2, n3⟩ := hc
  go_enter Try.func21, Try.ntmps21
  go_wp2_with fail
  refine (clockCheck_ok b 0 x.now now ⟨n1, n2, n3⟩ _ k0).mono ?_
  rintro e w' ⟨rfl, rfl⟩
  go_wp2_with fail
  refine (clockSet_any b 0 now _ _ k0 f0).mono ?_
  rintro e w1 ⟨rfl, rfl⟩
  clear k0 f0
  go_upto_region 5 with fail
  refine abs_at (fun y => LinkAt y b { x with now := now } ∧ KeepsBut b w y) ⟨LinkAt.set0 hg now, KeepsBut.set (KeepsBut.refl _ _) _ _⟩ ?_
  clear hg
  rintro wx ⟨hg, kk⟩
  have k2 := obj_cell hg (k := 2) rfl
  have k3 := obj_cell hg (k := 3) rfl
  have k4 := obj_cell hg (k := 4) rfl
  have k5 := obj_cell hg (k := 5) rfl
  have f2 := obj_free hg 2
  have f3 := obj_free hg 3
  simp only [] at k2 k3 k4 k5
  go_wp2_with fail
  refine (linkSay_any b { x with now := now } 1 now _ hg).mono ?_
  rintro e w2 ⟨g2, rfl, hgs, m, gl, k2⟩
  go_wp2
  go_ret2
  have := kk.size
  exact ⟨g2, rfl, by omega, m, gl, Keeps.trans kk (k2.mono (fun _ _ h => h))⟩

theorem linkTick_any (b : Nat) (x : Pl.Lk) (hx : x.Ok) (now : Int) (w : World) (hg : LinkAt w b x) :
    Calls Try.prog 21 #[.pointer (some ⟨b, 0, none⟩), .int .i64 now] w fun e w' => DidLink w b (x.ticks now) e w' := by
  by_cases hc : Pl.clockOk x.now now
  case neg =>
    rw [show x.ticks now = ⟨x, [], Pl.clockFault now⟩ from by unfold Pl.Lk.ticks; rw [Pl.timeF_bad hc, if_pos (Pl.clockFault_ne now)]]
    exact (linkTick_time b x now hc w hg).mono fun e w' h => didlink_fault (Pl.clockFault_ne now) hg h
  obtain ⟨h1, h2, h3, h4, h5, h6⟩ := hx
  have hx : 0 ≤ x.heard ∧ x.heard ≤ 1000000 ∧ 0 ≤ x.sent ∧ x.sent ≤ 1000000 := by omega
  by_cases hs : x.state = 2
  · by_cases hh : 30 ≤ now - x.heard
    · rw [show x.ticks now = ⟨{ x with now := now, state := 0, other := 0 }, [], 0⟩ from by unfold Pl.Lk.ticks; rw [Pl.timeF_ok hc, if_neg (by simp), if_pos ⟨hs, hh⟩]]
      exact (linkTick_dead b x now hc (by simpa using hs) hh hx w hg).mono fun e w' h => didlink_off h
    · by_cases hq : now - x.sent < 10
      · rw [show x.ticks now = ⟨x.tick now, [], 0⟩ from by unfold Pl.Lk.ticks; rw [Pl.timeF_ok hc, if_neg (by simp), if_neg (by omega), if_pos (by omega)]]
        exact (linkTick_quiet b x now hc hs (by omega) hq hx w hg).mono fun e w' h => didlink_off h
      · rw [show x.ticks now = ⟨{ x with now := now, sent := now }, [3, x.me, x.other], 0⟩ from by unfold Pl.Lk.ticks; rw [Pl.timeF_ok hc, if_neg (by simp), if_neg (by omega), if_neg (by omega), if_pos hs]]
        exact (linkTick_say b x now hc hs (by omega) (by omega) hx w hg).mono fun e w' h => didlink_say h
  · by_cases h0 : x.state = 0
    · rw [show x.ticks now = ⟨x.tick now, [], 0⟩ from by unfold Pl.Lk.ticks; rw [Pl.timeF_ok hc, if_neg (by simp), if_neg (by omega), if_pos (by omega)]]
      exact (linkTick_cold b x now hc (by simpa using hs) (by simpa using h0) hx w hg).mono fun e w' h => didlink_off h
    · by_cases hq : now - x.sent < 10
      · rw [show x.ticks now = ⟨x.tick now, [], 0⟩ from by unfold Pl.Lk.ticks; rw [Pl.timeF_ok hc, if_neg (by simp), if_neg (by omega), if_pos (by omega)]]
        exact (linkTick_said b x now hc (by simpa using hs) (by simpa using h0) hq hx w hg).mono fun e w' h => didlink_off h
      · rw [show x.ticks now = ⟨{ x with now := now, sent := now }, [1, x.me, 0], 0⟩ from by unfold Pl.Lk.ticks; rw [Pl.timeF_ok hc, if_neg (by simp), if_neg (by omega), if_neg (by omega), if_neg hs]]
        exact (linkTick_hello b x now hc (by simpa using hs) (by simpa using h0) (by omega) hx w hg).mono fun e w' h => didlink_say h
end Go.Proofs.Ytanmokomefdaiaa
