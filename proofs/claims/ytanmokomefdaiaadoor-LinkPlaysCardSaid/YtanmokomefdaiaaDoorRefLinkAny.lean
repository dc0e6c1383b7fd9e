import Derived.Test.YtanmokomefdaiaaDoorRefLink
/-! Contracts of the reference's side: any time, any message (printed by wip/tools/gen_linkany2.py). -/
namespace Go.Proofs.YtanmokomefdaiaaDoor
open Go.RowKit
set_option linter.unusedVariables false
set_option linter.unusedSimpArgs false
theorem rlOpen_any (b : Nat) (x : Pl.Lk) (now : Int) (w : World) (hg : RLinkAt w b x) :
    Calls Tryd.prog 33 #[.pointer (some ⟨b, 0, none⟩), .int .i64 now] w fun e w' => DidRef w b (x.open_ now) e w' := by
  by_cases hc : Pl.clockOk x.now now
  case neg =>
    rw [show x.open_ now = ⟨x, [], Pl.clockFault now⟩ from by unfold Pl.Lk.open_; rw [Pl.timeF_bad hc, if_pos (Pl.clockFault_ne now)]]
    exact (rlOpen_bad b x now hc w hg).mono fun e w' h => didrl_fault (Pl.clockFault_ne now) hg h
  by_cases hs : x.state = 2
  · rw [show x.open_ now = ⟨x, [], 6⟩ from by unfold Pl.Lk.open_; rw [Pl.timeF_ok hc, if_neg (by simp), if_pos hs]]
    exact (rlOpen_state b x now hc (by simpa using hs) w hg).mono fun e w' h => didrl_fault (by decide) hg h
  · rw [show x.open_ now = ⟨{ x with now := now, state := 1, sent := now }, [1, x.me, 0], 0⟩ from by unfold Pl.Lk.open_; rw [Pl.timeF_ok hc, if_neg (by simp), if_neg hs]]
    exact (rlOpen_ok b x now hc (by simpa using hs) w hg).mono fun e w' h => didrl_say h
theorem rlTick_any (b : Nat) (x : Pl.Lk) (hx : x.Ok) (now : Int) (w : World) (hg : RLinkAt w b x) :
    Calls Tryd.prog 37 #[.pointer (some ⟨b, 0, none⟩), .int .i64 now] w fun e w' => DidRef w b (x.ticks now) e w' := by
  by_cases hc : Pl.clockOk x.now now
  case neg =>
    rw [show x.ticks now = ⟨x, [], Pl.clockFault now⟩ from by unfold Pl.Lk.ticks; rw [Pl.timeF_bad hc, if_pos (Pl.clockFault_ne now)]]
    exact (rlTick_time b x now hc w hg).mono fun e w' h => didrl_fault (Pl.clockFault_ne now) hg h
  obtain ⟨h1, h2, h3, h4, h5, h6⟩ := hx
  have hx : 0 ≤ x.heard ∧ x.heard ≤ 1000000 ∧ 0 ≤ x.sent ∧ x.sent ≤ 1000000 := by omega
  by_cases hs : x.state = 2
  · by_cases hh : 30 ≤ now - x.heard
    · rw [show x.ticks now = ⟨{ x with now := now, state := 0, other := 0 }, [], 0⟩ from by unfold Pl.Lk.ticks; rw [Pl.timeF_ok hc, if_neg (by simp), if_pos ⟨hs, hh⟩]]
      exact (rlTick_dead b x now hc (by simpa using hs) hh hx w hg).mono fun e w' h => didrl_off h
    · by_cases hq : now - x.sent < 10
      · rw [show x.ticks now = ⟨x.tick now, [], 0⟩ from by unfold Pl.Lk.ticks; rw [Pl.timeF_ok hc, if_neg (by simp), if_neg (by omega), if_pos (by omega)]]
        exact (rlTick_quiet b x now hc (by simpa using hs) (by rw [hs]; rfl) (by omega) hq hx w hg).mono fun e w' h => didrl_off h
      · rw [show x.ticks now = ⟨{ x with now := now, sent := now }, [3, x.me, x.other], 0⟩ from by unfold Pl.Lk.ticks; rw [Pl.timeF_ok hc, if_neg (by simp), if_neg (by omega), if_neg (by omega), if_pos hs]]
        exact (rlTick_say b x now hc (by simpa using hs) (by rw [hs]; rfl) (by omega) (by omega) hx w hg).mono fun e w' h => didrl_say h
  · by_cases h0 : x.state = 0
    · rw [show x.ticks now = ⟨x.tick now, [], 0⟩ from by unfold Pl.Lk.ticks; rw [Pl.timeF_ok hc, if_neg (by simp), if_neg (by omega), if_pos (by omega)]]
      exact (rlTick_cold b x now hc (by simpa using hs) (by simpa using h0) hx w hg).mono fun e w' h => didrl_off h
    · by_cases hq : now - x.sent < 10
      · rw [show x.ticks now = ⟨x.tick now, [], 0⟩ from by unfold Pl.Lk.ticks; rw [Pl.timeF_ok hc, if_neg (by simp), if_neg (by omega), if_pos (by omega)]]
        exact (rlTick_said b x now hc (by simpa using hs) (by simpa using h0) hq hx w hg).mono fun e w' h => didrl_off h
      · rw [show x.ticks now = ⟨{ x with now := now, sent := now }, [1, x.me, 0], 0⟩ from by unfold Pl.Lk.ticks; rw [Pl.timeF_ok hc, if_neg (by simp), if_neg (by omega), if_neg (by omega), if_neg hs]]
        exact (rlTick_hello b x now hc (by simpa using hs) (by simpa using h0) (by omega) hx w hg).mono fun e w' h => didrl_say h
set_option maxRecDepth 100000 in
set_option maxHeartbeats 2000000 in
theorem rlHear_any (b : Nat) (x : Pl.Lk) (m : List Int) (v : Value) (now : Int) (w : World) (hg : RLinkAt w b x) (hm : Sl encI w v m) (hv : Away v b) :
    Calls Tryd.prog 35 #[.pointer (some ⟨b, 0, none⟩), v, .int .i64 now] w fun e w' => DidRef w b (x.hear m now) e w' := by
  by_cases hc : Pl.clockOk x.now now
  case neg =>
    rw [Pl.Lk.hear_time hc]
    exact (rlHear_time b x now v hc w hg).mono fun e w' h => didrl_fault (Pl.clockFault_ne now) hg h
  by_cases h3 : m.length = 3
  case neg =>
    rw [Pl.Lk.hear_shape hc h3]
    obtain ⟨b1, o1, c1, oa1, rfl, _, _⟩ := hm.shape
    exact (rlHear_shape b x now oa1 m.length c1 h3 hc w hg).mono fun e w' h => didrl_fault (by decide) hg h
  obtain ⟨k, s, o, rfl⟩ := list_three h3
  obtain ⟨g, off, c, rfl, mi⟩ := hm.three
  have hne := hv g off c rfl
  by_cases hk : Pl.msgOk k s o
  case neg =>
    rw [Pl.Lk.hear_range hc hk]
    exact (rlHear_range b g off c x now k s o hk hc w hg mi).mono fun e w' h => didrl_fault (by decide) hg h
  rw [Pl.Lk.hear3 hc hk]
  have hk' := hk
  obtain ⟨q1, q2, _⟩ := hk'
  obtain rfl | rfl | rfl : k = 1 ∨ k = 2 ∨ k = 3 := by omega
  · cases hd : (x.state == 2)
    · have d1 : x.state ≠ 2 := by simpa using hd
      rw [show x.msg 1 s o now = ⟨x.warm now s now, [2, x.me, s], 0⟩ from by unfold Pl.Lk.msg; rw [if_neg (by unfold Pl.Lk.off; omega), if_pos rfl]]
      exact (rlHear_1cold b g off c x now s o hc hd hk w hg mi hne).mono fun e w' h => didrl_say h
    · have d1 : x.state = 2 := by simpa using hd
      cases hl : decide (s < x.other)
      · have d3 : ¬ s < x.other := by simpa using hl
        rw [show x.msg 1 s o now = ⟨x.warm now s now, [2, x.me, s], 0⟩ from by unfold Pl.Lk.msg; rw [if_neg (by unfold Pl.Lk.off; omega), if_pos rfl]]
        exact (rlHear_1warm b g off c x now s o hc hd hl hk w hg mi hne).mono fun e w' h => didrl_say h
      · have d3 : s < x.other := by simpa using hl
        rw [show x.msg 1 s o now = ⟨x.tick now, [], 0⟩ from if_pos (by unfold Pl.Lk.off; omega)]
        exact (rlHear_1old b g off c x now s o hc hd hl hk w hg mi hne).mono fun e w' h => didrl_off h
  · cases ho : (o == x.me)
    · have d2 : o ≠ x.me := by simpa using ho
      cases hd : (x.state == 2)
      · have d1 : x.state ≠ 2 := by simpa using hd
        rw [show x.msg 2 s o now = ⟨x.tick now, [], 0⟩ from if_pos (by unfold Pl.Lk.off; omega)]
        exact (rlHear_2not0 b g off c x now s o hc hd ho hk w hg mi hne).mono fun e w' h => didrl_off h
      · have d1 : x.state = 2 := by simpa using hd
        rw [show x.msg 2 s o now = ⟨x.tick now, [], 0⟩ from if_pos (by unfold Pl.Lk.off; omega)]
        exact (rlHear_2not1 b g off c x now s o hc hd ho hk w hg mi hne).mono fun e w' h => didrl_off h
    · have d2 : o = x.me := by simpa using ho
      cases hd : (x.state == 2)
      · have d1 : x.state ≠ 2 := by simpa using hd
        rw [show x.msg 2 s o now = ⟨x.warm now s now, [3, x.me, s], 0⟩ from by unfold Pl.Lk.msg; rw [if_neg (by unfold Pl.Lk.off; omega), if_neg (by decide), if_pos (by omega)]]
        exact (rlHear_2cold b g off c x now s o hc hd ho hk w hg mi hne).mono fun e w' h => didrl_say h
      · have d1 : x.state = 2 := by simpa using hd
        cases hl : decide (s < x.other)
        · have d3 : ¬ s < x.other := by simpa using hl
          cases he : (s == x.other)
          · have d4 : s ≠ x.other := by simpa using he
            rw [show x.msg 2 s o now = ⟨x.warm now s now, [3, x.me, s], 0⟩ from by unfold Pl.Lk.msg; rw [if_neg (by unfold Pl.Lk.off; omega), if_neg (by decide), if_pos (by omega)]]
            exact (rlHear_2new b g off c x now s o hc hd ho hl he hk w hg mi hne).mono fun e w' h => didrl_say h
          · have d4 : s = x.other := by simpa using he
            rw [show x.msg 2 s o now = ⟨x.warm now s x.sent, [], 0⟩ from by unfold Pl.Lk.msg; rw [if_neg (by unfold Pl.Lk.off; omega), if_neg (by decide), if_neg (by omega)]]
            exact (rlHear_2same b g off c x now s o hc hd ho hl he hk w hg mi hne).mono fun e w' h => didrl_off h
        · have d3 : s < x.other := by simpa using hl
          rw [show x.msg 2 s o now = ⟨x.tick now, [], 0⟩ from if_pos (by unfold Pl.Lk.off; omega)]
          exact (rlHear_2old b g off c x now s o hc hd ho hl hk w hg mi hne).mono fun e w' h => didrl_off h
  · cases ho : (o == x.me)
    · have d2 : o ≠ x.me := by simpa using ho
      cases hd : (x.state == 2)
      · have d1 : x.state ≠ 2 := by simpa using hd
        rw [show x.msg 3 s o now = ⟨x.tick now, [], 0⟩ from if_pos (by unfold Pl.Lk.off; omega)]
        exact (rlHear_3not0 b g off c x now s o hc hd ho hk w hg mi hne).mono fun e w' h => didrl_off h
      · have d1 : x.state = 2 := by simpa using hd
        rw [show x.msg 3 s o now = ⟨x.tick now, [], 0⟩ from if_pos (by unfold Pl.Lk.off; omega)]
        exact (rlHear_3not1 b g off c x now s o hc hd ho hk w hg mi hne).mono fun e w' h => didrl_off h
    · have d2 : o = x.me := by simpa using ho
      cases hd : (x.state == 2)
      · have d1 : x.state ≠ 2 := by simpa using hd
        rw [show x.msg 3 s o now = ⟨x.tick now, [], 0⟩ from if_pos (by unfold Pl.Lk.off; omega)]
        exact (rlHear_3cold b g off c x now s o hc hd ho hk w hg mi hne).mono fun e w' h => didrl_off h
      · have d1 : x.state = 2 := by simpa using hd
        cases he : (s == x.other)
        · have d4 : s ≠ x.other := by simpa using he
          rw [show x.msg 3 s o now = ⟨x.tick now, [], 0⟩ from if_pos (by unfold Pl.Lk.off; omega)]
          exact (rlHear_3other b g off c x now s o hc hd ho he hk w hg mi hne).mono fun e w' h => didrl_off h
        · have d4 : s = x.other := by simpa using he
          rw [show x.msg 3 s o now = ⟨x.warm now s x.sent, [], 0⟩ from by unfold Pl.Lk.msg; rw [if_neg (by unfold Pl.Lk.off; omega), if_neg (by decide), if_neg (by omega)]]
          exact (rlHear_3same b g off c x now s o hc hd ho he hk w hg mi hne).mono fun e w' h => didrl_off h

end Go.Proofs.YtanmokomefdaiaaDoor
