import Derived.Test.YtanmokomefdaiaaLinkAny
import Derived.Lib.AppendZeros
import Derived.Maps.AppendAt
import Derived.Lib.LazyBuf
import Derived.Deep.CutBlock
import Derived.Deep.DeepCutAuto
/-! Two sides that meet: plain. -/
namespace Go.Proofs.Ytanmokomefdaiaa
open Go.RowKit
set_option linter.unusedVariables false
set_option linter.unusedSimpArgs false

/-- a message to the first side -/
def Pl.MX (e b : Int) (m : List Int) : Prop := ∃ k s o, m = [k, s, o] ∧ 1 ≤ k ∧ k ≤ 3 ∧ e ≤ s ∧ s ≤ b ∧ 0 ≤ o ∧ o ≤ 1000000
/-- a message to the second side -/
def Pl.MY (a b : Int) (m : List Int) : Prop := ∃ k s o, m = [k, s, o] ∧ 1 ≤ k ∧ k ≤ 3 ∧ s = a ∧ 0 ≤ o ∧ o ≤ b
structure Pl.SideX (a e b now : Int) (x : Pl.Lk) : Prop where
  me : x.me = a
  ok : x.Ok
  now : x.now ≤ now
  warm : x.state = 2 → e ≤ x.other ∧ x.other ≤ b
  cold : x.state ≠ 2 → x.other = 0
structure Pl.SideY (a b now : Int) (y : Pl.Lk) : Prop where
  me : y.me = b
  ok : y.Ok
  now : y.now ≤ now
  warm : y.state = 2 → y.other = a
/-- what does not change -/
structure Pl.Bnd (a e b now : Int) : Prop where
  a1 : 1 ≤ a
  a2 : a ≤ 1000000
  e1 : 1 ≤ e
  eb : e ≤ b
  b2 : b ≤ 1000000
  n1 : 0 ≤ now
  n2 : now ≤ 1000000
theorem Pl.MX.mono {e b b' : Int} {m : List Int} (h : Pl.MX e b m) (hb : b ≤ b') : Pl.MX e b' m := by
  obtain ⟨k, s, o, h0, h1, h2, h3, h4, h5, h6⟩ := h
  exact ⟨k, s, o, h0, h1, h2, h3, by omega, h5, h6⟩
theorem Pl.MY.mono {a b b' : Int} {m : List Int} (h : Pl.MY a b m) (hb : b ≤ b') : Pl.MY a b' m := by
  obtain ⟨k, s, o, h0, h1, h2, h3, h4, h5⟩ := h
  exact ⟨k, s, o, h0, h1, h2, h3, h4, by omega⟩
theorem Pl.SideX.mono {a e b now b' now' : Int} {x : Pl.Lk} (h : Pl.SideX a e b now x) (hb : b ≤ b') (hn : now ≤ now') : Pl.SideX a e b' now' x :=
  ⟨h.me, h.ok, by have := h.now; omega, fun q => by have := h.warm q; omega, h.cold⟩
theorem Pl.SideY.mono {a b now now' : Int} {x : Pl.Lk} (h : Pl.SideY a b now x) (hn : now ≤ now') : Pl.SideY a b now' x :=
  ⟨h.me, h.ok, by have := h.now; omega, h.warm⟩
theorem Pl.SideX.hear {a e b now : Int} {x : Pl.Lk} {m : List Int} (B : Pl.Bnd a e b now) (h : Pl.SideX a e b now x) (hm : Pl.MX e b m) :
    (x.hear m now).f = 0 ∧ Pl.SideX a e b now (x.hear m now).x ∧ ((x.hear m now).l = [] ∨ Pl.MY a b (x.hear m now).l) := by
  obtain ⟨a1, a2, e1, eb, b2, n1, n2⟩ := B
  obtain ⟨k, s, o, rfl, m1, m2, m3, m4, m5, m6⟩ := hm
  have hc : Pl.clockOk x.now now := ⟨n1, n2, h.now⟩
  have hk : Pl.msgOk k s o := ⟨m1, m2, by omega, by omega, m5, m6⟩
  rw [Pl.Lk.hear3 hc hk]
  have hw := h.ok.warm hc s
  obtain ⟨q1, q2, q3⟩ := hw
  have hme := h.me
  unfold Pl.Lk.msg
  split
  · exact ⟨rfl, ⟨h.me, q3, Int.le_refl _, h.warm, h.cold⟩, .inl rfl⟩
  · rename_i hoff
    have hY : ∀ kk, 1 ≤ kk → kk ≤ 3 → Pl.MY a b [kk, x.me, s] := fun kk h1 h2 => ⟨kk, x.me, s, rfl, h1, h2, hme, by omega, m4⟩
    split
    · exact ⟨rfl, ⟨h.me, q2, Int.le_refl _, fun _ => ⟨m3, m4⟩, fun hh => absurd rfl hh⟩, .inr (hY 2 (by omega) (by omega))⟩
    · split
      · exact ⟨rfl, ⟨h.me, q2, Int.le_refl _, fun _ => ⟨m3, m4⟩, fun hh => absurd rfl hh⟩, .inr (hY 3 (by omega) (by omega))⟩
      · exact ⟨rfl, ⟨h.me, q1, Int.le_refl _, fun _ => ⟨m3, m4⟩, fun hh => absurd rfl hh⟩, .inl rfl⟩
theorem Pl.SideY.hear {a e b now : Int} {x : Pl.Lk} {m : List Int} (B : Pl.Bnd a e b now) (h : Pl.SideY a b now x) (hm : Pl.MY a b m) :
    (x.hear m now).f = 0 ∧ Pl.SideY a b now (x.hear m now).x ∧ ((x.hear m now).l = [] ∨ Pl.MX e b (x.hear m now).l) := by
  obtain ⟨a1, a2, e1, eb, b2, n1, n2⟩ := B
  obtain ⟨k, s, o, rfl, m1, m2, m3, m4, m5⟩ := hm
  have hc : Pl.clockOk x.now now := ⟨n1, n2, h.now⟩
  have hk : Pl.msgOk k s o := ⟨m1, m2, by omega, by omega, m4, by omega⟩
  rw [Pl.Lk.hear3 hc hk]
  have hw := h.ok.warm hc s
  obtain ⟨q1, q2, q3⟩ := hw
  have hme := h.me
  unfold Pl.Lk.msg
  split
  · exact ⟨rfl, ⟨h.me, q3, Int.le_refl _, h.warm⟩, .inl rfl⟩
  · rename_i hoff
    have hY : ∀ kk, 1 ≤ kk → kk ≤ 3 → Pl.MX e b [kk, x.me, s] := fun kk h1 h2 => ⟨kk, x.me, s, rfl, h1, h2, by omega, by omega, by omega, by omega⟩
    split
    · exact ⟨rfl, ⟨h.me, q2, Int.le_refl _, fun _ => m3⟩, .inr (hY 2 (by omega) (by omega))⟩
    · split
      · exact ⟨rfl, ⟨h.me, q2, Int.le_refl _, fun _ => m3⟩, .inr (hY 3 (by omega) (by omega))⟩
      · exact ⟨rfl, ⟨h.me, q1, Int.le_refl _, fun _ => m3⟩, .inl rfl⟩
theorem Pl.SideX.ticks {a e b now : Int} {x : Pl.Lk} (B : Pl.Bnd a e b now) (h : Pl.SideX a e b now x) :
    (x.ticks now).f = 0 ∧ Pl.SideX a e b now (x.ticks now).x ∧ ((x.ticks now).l = [] ∨ Pl.MY a b (x.ticks now).l) := by
  obtain ⟨a1, a2, e1, eb, b2, n1, n2⟩ := B
  have hok := h.ok.ticks now
  have hc : Pl.clockOk x.now now := ⟨n1, n2, h.now⟩
  have hme := h.me
  have hw := h.warm
  have hcd := h.cold
  revert hok
  unfold Pl.Lk.ticks
  rw [if_neg (by rw [Pl.timeF_ok hc]; simp)]
  split
  · exact fun hok => ⟨rfl, ⟨h.me, hok, Int.le_refl _, fun q => absurd q (by simp), fun _ => rfl⟩, .inl rfl⟩
  · split
    · exact fun hok => ⟨rfl, ⟨h.me, hok, Int.le_refl _, h.warm, h.cold⟩, .inl rfl⟩
    · split
      · rename_i hs
        have := hw hs
        exact fun hok => ⟨rfl, ⟨h.me, hok, Int.le_refl _, h.warm, h.cold⟩, .inr ⟨3, x.me, x.other, rfl, by omega, by omega, hme, by omega, by omega⟩⟩
      · exact fun hok => ⟨rfl, ⟨h.me, hok, Int.le_refl _, h.warm, h.cold⟩, .inr ⟨1, x.me, 0, rfl, by omega, by omega, hme, by omega, by omega⟩⟩
theorem Pl.SideY.ticks {a e b now : Int} {x : Pl.Lk} (B : Pl.Bnd a e b now) (h : Pl.SideY a b now x) :
    (x.ticks now).f = 0 ∧ Pl.SideY a b now (x.ticks now).x ∧ ((x.ticks now).l = [] ∨ Pl.MX e b (x.ticks now).l) := by
  obtain ⟨a1, a2, e1, eb, b2, n1, n2⟩ := B
  have hok := h.ok.ticks now
  have hc : Pl.clockOk x.now now := ⟨n1, n2, h.now⟩
  have hme := h.me
  have hw := h.warm
  revert hok
  unfold Pl.Lk.ticks
  rw [if_neg (by rw [Pl.timeF_ok hc]; simp)]
  split
  · exact fun hok => ⟨rfl, ⟨h.me, hok, Int.le_refl _, fun q => absurd q (by simp)⟩, .inl rfl⟩
  · split
    · exact fun hok => ⟨rfl, ⟨h.me, hok, Int.le_refl _, h.warm⟩, .inl rfl⟩
    · split
      · rename_i hs
        have := hw hs
        exact fun hok => ⟨rfl, ⟨h.me, hok, Int.le_refl _, h.warm⟩, .inr ⟨3, x.me, x.other, rfl, by omega, by omega, by omega, by omega, by omega, by omega⟩⟩
      · exact fun hok => ⟨rfl, ⟨h.me, hok, Int.le_refl _, h.warm⟩, .inr ⟨1, x.me, 0, rfl, by omega, by omega, by omega, by omega, by omega, by omega⟩⟩
/-- forty on, nobody is warm -/
theorem Pl.Lk.ticks_cold {x : Pl.Lk} {now now' : Int} (h : x.Ok) (hn : x.now ≤ now) (h0 : 0 ≤ now') (h1 : now' ≤ 1000000) (h2 : now + 40 ≤ now') :
    (x.ticks now').f = 0 ∧ (x.ticks now').x.state ≠ 2 ∧ (x.ticks now').x.me = x.me ∧ (x.ticks now').x.now = now' ∧ (x.ticks now').x.Ok := by
  have hok := h.ticks now'
  obtain ⟨q1, q2, q3, q4, q5, q6⟩ := h
  have hc : Pl.clockOk x.now now' := ⟨h0, h1, by omega⟩
  revert hok
  unfold Pl.Lk.ticks
  rw [if_neg (by rw [Pl.timeF_ok hc]; simp)]
  split
  · exact fun hok => ⟨rfl, by simp, rfl, rfl, hok⟩
  · rename_i hs
    have hs2 : x.state ≠ 2 := by omega
    split
    · exact fun hok => ⟨rfl, hs2, rfl, rfl, hok⟩
    · first
      | (split
         · omega
         · exact fun hok => ⟨rfl, hs2, rfl, rfl, hok⟩)
      | exact fun hok => ⟨rfl, hs2, rfl, rfl, hok⟩
theorem Pl.SideY.new {a b now : Int} (hb : 1 ≤ b) (h0 : 0 ≤ now) : Pl.SideY a b now ⟨0, b, 0, 0, 0, 0⟩ :=
  ⟨rfl, ⟨Int.le_refl _, by simp, Int.le_refl _, Int.le_refl _, Int.le_refl _, Int.le_refl _⟩, h0, fun q => absurd q (by simp)⟩
theorem Pl.SideX.new {a e b now : Int} (h0 : 0 ≤ now) : Pl.SideX a e b now ⟨0, a, 0, 0, 0, 0⟩ :=
  ⟨rfl, ⟨Int.le_refl _, by simp, Int.le_refl _, Int.le_refl _, Int.le_refl _, Int.le_refl _⟩, h0, fun q => absurd q (by simp), fun _ => rfl⟩

/-- a message in memory, at the head of a block of its own -/
def MsgV (w : World) (v : Value) (l : List Int) : Prop := ∃ g k s o, v = .slice (some ⟨g, 0, none⟩) 3 3 ∧ l = [k, s, o] ∧ MsgAt w g k s o
/-- blocks of type T are as they were -/
def TK (T : TypeId) (w w' : World) : Prop := ∀ (g : Nat) (o : Array Value), w.heap[g]? = some (.cells o T (0, 0)) → w'.heap[g]? = w.heap[g]?
theorem MsgV.keep {w w' : World} {v : Value} {l : List Int} (h : MsgV w v l) (hk : TK 3 w w') : MsgV w' v l := by
  obtain ⟨g, k, s, o, rfl, rfl, hm⟩ := h
  exact ⟨g, k, s, o, rfl, rfl, by unfold MsgAt at *; rw [hk g _ hm]; exact hm⟩
theorem MsgV.sl {w : World} {v : Value} {l : List Int} (h : MsgV w v l) : Sl encI w v l := by
  obtain ⟨g, k, s, o, rfl, rfl, hm⟩ := h
  exact SaidAt.sl (N := 0) (.inr ⟨g, k, s, o, rfl, Nat.zero_le _, rfl, hm⟩)
theorem MsgV.away {w : World} {v : Value} {l : List Int} (h : MsgV w v l) {b : Nat} {x : Pl.Lk} (hg : LinkAt w b x) : Away v b := by
  obtain ⟨g, k, s, o, rfl, rfl, hm⟩ := h
  rintro g' off c e rfl
  cases e
  unfold MsgAt at hm
  unfold LinkAt at hg
  rw [hm] at hg
  simp at hg
theorem SaidAt.msgV {N : Nat} {w : World} {v : Value} {l : List Int} (h : SaidAt N w v l) (hl : l ≠ []) : MsgV w v l := by
  rcases h with ⟨rfl, _⟩ | ⟨g, k, s, o, rfl, _, rfl, hm⟩
  · exact absurd rfl hl
  · exact ⟨g, k, s, o, rfl, rfl, hm⟩
theorem row_keep {w w' : World} {B n : Nat} {v : Value} {xs : List Value} (h : w.ownsRow B 23 1 v n xs) (hk : TK 23 w w') : w'.ownsRow B 23 1 v n xs := by
  obtain ⟨h1, h2⟩ := h
  refine ⟨h1, ?_⟩
  rcases h2 with h2 | ⟨g, cap, cur, rfl, hb, hg, hc, hm, hs, ht⟩
  · exact .inl h2
  · exact .inr ⟨g, cap, cur, rfl, hb, by rw [hk g _ hg]; exact hg, hc, hm, hs, ht⟩
theorem TK.but {T : TypeId} {w w' : World} {b : Nat} {x : Pl.Lk} (h : KeepsBut b w w') (hg : LinkAt w b x) (hT : T ≠ 81) : TK T w w' := by
  intro g o ho
  refine h.block g (lt_of_block ho) ?_
  rintro rfl
  unfold LinkAt at hg
  rw [ho] at hg
  simp at hg
  exact hT hg.2
theorem TK.below {T : TypeId} {w w' : World} (h : Below w.heap.size w w') : TK T w w' := fun g o ho => h.block g (lt_of_block ho)
theorem TK.grown {T : TypeId} {w w' : World} {B n : Nat} {v : Value} {xs : List Value} (h : w.grownBy w' v.ownBlock) (hr : w.ownsRow B 23 1 v n xs) (hT : T ≠ 23) : TK T w w' := by
  intro g o ho
  refine h.block g (lt_of_block ho) ?_
  intro e
  obtain ⟨_, h2⟩ := hr
  rcases h2 with ⟨rfl, _⟩ | ⟨g', cap, cur, rfl, hb, hg, hc, hm, hs, ht⟩
  · simp [Value.ownBlock] at e
  · simp [Value.ownBlock] at e
    subst e
    rw [ho] at hg
    simp at hg
    exact hT hg.2

/-- both sides and all that was said, in memory -/
structure Mt (B : Nat) (wr : World) (bx c : Nat) (x y : Pl.Lk) (vX vY : Value) (tX tY : List (Value × List Int)) : Prop where
  gx : LinkAt wr bx x
  gy : LinkAt wr c y
  ne : bx ≠ c
  hx : B ≤ bx
  hy : B ≤ c
  rX : wr.ownsRow B 23 1 vX tX.length (tX.map fun p => p.1)
  rY : wr.ownsRow B 23 1 vY tY.length (tY.map fun p => p.1)
  ap : ∀ k, vX.ownBlock = some k → vY.ownBlock ≠ some k
  mX : ∀ p ∈ tX, MsgV wr p.1 p.2
  mY : ∀ p ∈ tY, MsgV wr p.1 p.2
theorem Mt.sideX {B : Nat} {w w' : World} {bx c : Nat} {x x' y : Pl.Lk} {vX vY : Value} {tX tY : List (Value × List Int)} (h : Mt B w bx c x y vX vY tX tY) (k : KeepsBut bx w w') (hg : LinkAt w' bx x') : Mt B w' bx c x' y vX vY tX tY :=
  ⟨hg, h.gy.other k (Ne.symm h.ne), h.ne, h.hx, h.hy, row_keep h.rX (TK.but k h.gx (by decide)), row_keep h.rY (TK.but k h.gx (by decide)), h.ap, fun p hp => (h.mX p hp).keep (TK.but k h.gx (by decide)), fun p hp => (h.mY p hp).keep (TK.but k h.gx (by decide))⟩
theorem Mt.sideY {B : Nat} {w w' : World} {bx c : Nat} {x y y' : Pl.Lk} {vX vY : Value} {tX tY : List (Value × List Int)} (h : Mt B w bx c x y vX vY tX tY) (k : KeepsBut c w w') (hg : LinkAt w' c y') : Mt B w' bx c x y' vX vY tX tY :=
  ⟨h.gx.other k h.ne, hg, h.ne, h.hx, h.hy, row_keep h.rX (TK.but k h.gy (by decide)), row_keep h.rY (TK.but k h.gy (by decide)), h.ap, fun p hp => (h.mX p hp).keep (TK.but k h.gy (by decide)), fun p hp => (h.mY p hp).keep (TK.but k h.gy (by decide))⟩
theorem Mt.below {B : Nat} {w w' : World} {bx c : Nat} {x y : Pl.Lk} {vX vY : Value} {tX tY : List (Value × List Int)} (h : Mt B w bx c x y vX vY tX tY) (k : Below w.heap.size w w') : Mt B w' bx c x y vX vY tX tY :=
  ⟨h.gx.below k (lt_of_block h.gx), h.gy.below k (lt_of_block h.gy), h.ne, h.hx, h.hy, row_keep h.rX (TK.below k), row_keep h.rY (TK.below k), h.ap, fun p hp => (h.mX p hp).keep (TK.below k), fun p hp => (h.mY p hp).keep (TK.below k)⟩
/-- the second side, made anew -/
theorem Mt.newY {B : Nat} {w w' : World} {bx c c' : Nat} {x y y' : Pl.Lk} {vX vY : Value} {tX tY : List (Value × List Int)} (h : Mt B w bx c x y vX vY tX tY) (k : Below w.heap.size w w') (hg : LinkAt w' c' y') (hc : w.heap.size ≤ c') : Mt B w' bx c' x y' vX vY tX tY := by
  have h' := h.below k
  have := lt_of_block h.gx
  have := h.hx
  exact ⟨h'.gx, hg, by omega, h'.hx, by omega, h'.rX, h'.rY, h'.ap, h'.mX, h'.mY⟩
theorem Mt.moreY {B : Nat} {w w' : World} {bx c : Nat} {x y : Pl.Lk} {vX vY vY' : Value} {tX tY : List (Value × List Int)} {v : Value} {l : List Int} (h : Mt B w bx c x y vX vY tX tY) (hr : w'.ownsRow B 23 1 vY' (tY.length + 1) (tY.map (fun p => p.1) ++ [v])) (hg : w.grownBy w' vY.ownBlock) (hb : vY'.ownBlock = vY.ownBlock ∨ vY'.ownBlock = some w.heap.size) (hm : MsgV w v l) : Mt B w' bx c x y vX vY' tX (tY ++ [(v, l)]) := by
  have kI : TK 3 w w' := TK.grown hg h.rY (by decide)
  have kL : TK 81 w w' := TK.grown hg h.rY (by decide)
  refine ⟨by have q := h.gx; unfold LinkAt at *; rw [kL _ _ q]; exact q, by have q := h.gy; unfold LinkAt at *; rw [kL _ _ q]; exact q, h.ne, h.hx, h.hy, h.rX.kept hg ?_, by simpa using hr, ?_, fun p hp => (h.mX p hp).keep kI, ?_⟩
  · cases hv : vX.ownBlock with
    | none => exact .inl rfl
    | some k => exact .inr (fun e => h.ap k hv e.symm)
  · intro k hk e
    rcases hb with hb | hb
    · exact h.ap k hk (hb ▸ e)
    · rw [hb] at e
      have := (h.rX.lt k hk).2
      simp at e
      omega
  · intro p hp
    rcases List.mem_append.1 hp with hp | hp
    · exact (h.mY p hp).keep kI
    · simp at hp
      subst hp
      exact hm.keep kI
theorem Mt.moreX {B : Nat} {w w' : World} {bx c : Nat} {x y : Pl.Lk} {vX vY vX' : Value} {tX tY : List (Value × List Int)} {v : Value} {l : List Int} (h : Mt B w bx c x y vX vY tX tY) (hr : w'.ownsRow B 23 1 vX' (tX.length + 1) (tX.map (fun p => p.1) ++ [v])) (hg : w.grownBy w' vX.ownBlock) (hb : vX'.ownBlock = vX.ownBlock ∨ vX'.ownBlock = some w.heap.size) (hm : MsgV w v l) : Mt B w' bx c x y vX' vY (tX ++ [(v, l)]) tY := by
  have kI : TK 3 w w' := TK.grown hg h.rX (by decide)
  have kL : TK 81 w w' := TK.grown hg h.rX (by decide)
  refine ⟨by have q := h.gx; unfold LinkAt at *; rw [kL _ _ q]; exact q, by have q := h.gy; unfold LinkAt at *; rw [kL _ _ q]; exact q, h.ne, h.hx, h.hy, by simpa using hr, h.rY.kept hg ?_, ?_, ?_, fun p hp => (h.mY p hp).keep kI⟩
  · cases hv : vY.ownBlock with
    | none => exact .inl rfl
    | some k => exact .inr (fun e => h.ap k e.symm hv)
  · intro k hk e
    rcases hb with hb | hb
    · exact h.ap k (hb ▸ hk) e
    · rw [hb] at hk
      have := (h.rY.lt k e).2
      simp at hk
      omega
  · intro p hp
    rcases List.mem_append.1 hp with hp | hp
    · exact (h.mX p hp).keep kI
    · simp at hp
      subst hp
      exact hm.keep kI
theorem infoRow : (Try.prog.info? 23).map (fun i => (i.zero, i.size, i.bytes)) = some (some (.slice none 0 0), 1, 24) := by kernel_rfl
theorem run_more (W : World) (B : Nat) (v u : Value) (n : Nat) (xs : List Value) (hown : W.ownsRow B 23 1 v n xs) (g : Nat) (hg : W.heap[g]? = some (.cells #[u] 23 (0, 0))) (hu : u.oneCell' = true) (hn : n ≤ 1000) (hB : B ≤ W.heap.size) :
    ∃ v' w', (Builtin.append_ #[57, 57] 57 #[v, .slice (some ⟨g, 0, none⟩) 1 1]).run Try.prog W = .ok v' w' ∧ w'.ownsRow B 23 1 v' (n + 1) (xs ++ [u]) ∧ W.grownBy w' v.ownBlock ∧ (v'.ownBlock = v.ownBlock ∨ v'.ownBlock = some W.heap.size) := by
  obtain ⟨i0, hi, hz0, hz1, hz2⟩ := info_parts infoRow
  obtain ⟨v', w', h1, h2, h3, _, h4⟩ := run_append_own_at (P := Try.prog) W B 57 57 23 i0 (.slice none 0 0) 1 24 Try.underlying57 hi hz0 hz1 hz2 rfl (by decide) v n xs hown ⟨g, 0, none⟩ 1 1 [u] rfl
    (fun j x hx => by
      match j, hx with
      | 0, hx => simp at hx; subst hx; exact obj_cell hg rfl)
    (fun x hx => by simp at hx; subst hx; exact hu) (by unfold maxLen; omega) (by omega) hB
  exact ⟨v', w', h1, h2, h3, h4⟩
theorem MsgV.one {w : World} {v : Value} {l : List Int} (h : MsgV w v l) : v.oneCell' = true := by
  obtain ⟨g, k, s, o, rfl, _⟩ := h
  rfl
/-- the element at k of a row of messages -/
theorem row_elem {w : World} {B : Nat} {v : Value} {t : List (Value × List Int)} (h : w.ownsRow B 23 1 v t.length (t.map fun p => p.1)) {k : Nat} (hk : k < t.length) : ∃ g c, v = .slice (some ⟨g, 0, none⟩) t.length c ∧ w.cell? ⟨g, k, none⟩ = some (t[k]).1 := by
  obtain ⟨h1, h2⟩ := h
  rcases h2 with ⟨_, h0⟩ | ⟨g, cap, cur, rfl, hb, hg, hc, hm, hs, ht⟩
  · omega
  · refine ⟨g, cap, rfl, obj_cell hg ?_⟩
    have h3 : (cur.toList.take (t.length * 1))[k]? = (t.map fun p => p.1)[k]? := by rw [ht]
    rw [List.getElem?_take, if_pos (by omega)] at h3
    simpa [hk] using h3
theorem row_len {w : World} {B : Nat} {v : Value} {n : Nat} {xs : List Value} (h : w.ownsRow B 23 1 v n xs) : ∃ oa c, v = .slice oa n c := by
  obtain ⟨h1, h2⟩ := h
  rcases h2 with ⟨rfl, rfl⟩ | ⟨g, cap, cur, rfl, _⟩
  · exact ⟨_, _, rfl⟩
  · exact ⟨_, _, rfl⟩
/-- the state between two rounds -/
def Rnd (B bx : Nat) (a e : Int) (wr : World) (s1 s15 s17 s18 s19 : Value) (k : Nat) : Prop :=
  ∃ (bb now : Int) (c : Nat) (x y : Pl.Lk) (tX tY : List (Value × List Int)), s1 = .int .i64 bb ∧ s15 = .pointer (some ⟨c, 0, none⟩) ∧ s19 = .int .i64 now ∧ Mt B wr bx c x y s17 s18 tX tY ∧ Pl.SideX a e bb now x ∧ Pl.SideY a bb now y ∧
    (∀ p ∈ tX, Pl.MX e bb p.2) ∧ (∀ p ∈ tY, Pl.MY a bb p.2) ∧ e ≤ bb ∧ bb ≤ e + k ∧ 0 ≤ now ∧ now ≤ 20 * k ∧ tX.length ≤ k ∧ tY.length ≤ k + 1
/-- the state behind one event -/
def Blk (B bx : Nat) (a e : Int) (wr : World) (s1 s15 s19 v26 v28 vX vY : Value) (tX tY : List (Value × List Int)) (bb0 now0 : Int) : Prop :=
  ∃ (bb now : Int) (c : Nat) (x y : Pl.Lk) (l : List Int) (left : Bool), s1 = .int .i64 bb ∧ s15 = .pointer (some ⟨c, 0, none⟩) ∧ s19 = .int .i64 now ∧ v28 = .bool left ∧ Mt B wr bx c x y vX vY tX tY ∧ Pl.SideX a e bb now x ∧ Pl.SideY a bb now y ∧
    ((l = [] ∧ v26 = .slice none 0 0) ∨ (l ≠ [] ∧ MsgV wr v26 l ∧ (left = true → Pl.MY a bb l) ∧ (left = false → Pl.MX e bb l))) ∧ bb0 ≤ bb ∧ bb ≤ bb0 + 1 ∧ now0 ≤ now ∧ now ≤ now0 + 20
theorem DidLink.ok {w w' : World} {b : Nat} {r : Pl.Out} {e : Ending} (h : DidLink w b r e w') (hf : r.f = 0) : ∃ v', e = .returned (.tuple #[v', .nilIface]) ∧ LinkAt w' b r.x ∧ SaidAt w.heap.size w' v' r.l ∧ KeepsBut b w w' := by
  obtain ⟨v, h1, h2, h3, h4⟩ := h
  refine ⟨v, ?_, h2, h3, h4⟩
  rw [h1, hf]
  rfl
theorem out_of {N : Nat} {w : World} {v : Value} {l : List Int} (h : SaidAt N w v l) : (l = [] ∧ v = .slice none 0 0) ∨ (l ≠ [] ∧ MsgV w v l) := by
  rcases h with h | ⟨g, k, s, o, rfl, hN, rfl, hm⟩
  · exact .inl h
  · exact .inr ⟨by simp, g, k, s, o, rfl, rfl, hm⟩
section
variable {B bx c : Nat} {a e bb now bb0 now0 : Int} {w w5 : World} {x y : Pl.Lk} {vX vY : Value} {tX tY : List (Value × List Int)} {r : Pl.Out} {en : Ending}
theorem blk_x (h : Mt B w bx c x y vX vY tX tY) (hy : Pl.SideY a bb now y) (h1 : bb0 ≤ bb) (h2 : bb ≤ bb0 + 1) (h3 : now0 ≤ now) (h4 : now ≤ now0 + 20)
    (hr : r.f = 0 ∧ Pl.SideX a e bb now r.x ∧ (r.l = [] ∨ Pl.MY a bb r.l)) (d : DidLink w bx r en w5) :
    ∃ v5, en = .returned (.tuple #[v5, .nilIface]) ∧ Blk B bx a e w5 (.int .i64 bb) (.pointer (some ⟨c, 0, none⟩)) (.int .i64 now) v5 (.bool true) vX vY tX tY bb0 now0 ∧ KeepsBut bx w w5 := by
  obtain ⟨v, e1, g, s, k⟩ := d.ok hr.1
  refine ⟨v, e1, ⟨bb, now, c, r.x, y, r.l, true, rfl, rfl, rfl, rfl, h.sideX k g, hr.2.1, hy, ?_, h1, h2, h3, h4⟩, k⟩
  rcases out_of s with q | ⟨q1, q2⟩
  · exact .inl q
  · exact .inr ⟨q1, q2, fun _ => hr.2.2.resolve_left q1, fun hh => by cases hh⟩
theorem blk_y (h : Mt B w bx c x y vX vY tX tY) (hx : Pl.SideX a e bb now x) (h1 : bb0 ≤ bb) (h2 : bb ≤ bb0 + 1) (h3 : now0 ≤ now) (h4 : now ≤ now0 + 20)
    (hr : r.f = 0 ∧ Pl.SideY a bb now r.x ∧ (r.l = [] ∨ Pl.MX e bb r.l)) (d : DidLink w c r en w5) :
    ∃ v5, en = .returned (.tuple #[v5, .nilIface]) ∧ Blk B bx a e w5 (.int .i64 bb) (.pointer (some ⟨c, 0, none⟩)) (.int .i64 now) v5 (.bool false) vX vY tX tY bb0 now0 ∧ KeepsBut c w w5 := by
  obtain ⟨v, e1, g, s, k⟩ := d.ok hr.1
  refine ⟨v, e1, ⟨bb, now, c, x, r.x, r.l, false, rfl, rfl, rfl, rfl, h.sideY k g, hx, hr.2.1, ?_, h1, h2, h3, h4⟩, k⟩
  rcases out_of s with q | ⟨q1, q2⟩
  · exact .inl q
  · exact .inr ⟨q1, q2, (fun hh => by cases hh), fun _ => hr.2.2.resolve_left q1⟩
theorem blk_none (left : Bool) (h : Mt B w bx c x y vX vY tX tY) (hx : Pl.SideX a e bb now x) (hy : Pl.SideY a bb now y) (h1 : bb0 ≤ bb) (h2 : bb ≤ bb0 + 1) (h3 : now0 ≤ now) (h4 : now ≤ now0 + 20) :
    Blk B bx a e w (.int .i64 bb) (.pointer (some ⟨c, 0, none⟩)) (.int .i64 now) (.slice none 0 0) (.bool left) vX vY tX tY bb0 now0 :=
  ⟨bb, now, c, x, y, [], left, rfl, rfl, rfl, rfl, h, hx, hy, .inl ⟨rfl, rfl⟩, h1, h2, h3, h4⟩
end
theorem Pl.SideY.open_ {a e b now : Int} {x : Pl.Lk} (B : Pl.Bnd a e b now) (h : Pl.SideY a b now x) (hs : x.state ≠ 2) :
    (x.open_ now).f = 0 ∧ Pl.SideY a b now (x.open_ now).x ∧ ((x.open_ now).l = [] ∨ Pl.MX e b (x.open_ now).l) := by
  obtain ⟨a1, a2, e1, eb, b2, n1, n2⟩ := B
  have hok := h.ok.open_ now
  have hc : Pl.clockOk x.now now := ⟨n1, n2, h.now⟩
  have hme := h.me
  revert hok
  unfold Pl.Lk.open_
  rw [if_neg (by rw [Pl.timeF_ok hc]; simp), if_neg hs]
  exact fun hok => ⟨rfl, ⟨h.me, hok, Int.le_refl _, fun q => absurd q (by simp)⟩, .inr ⟨1, x.me, 0, rfl, by omega, by omega, by omega, by omega, by omega, by omega⟩⟩
/-- the law's three numbers -/
def Three (w : World) (b : Nat) (a0 a1 a2 : Int) : Prop := w.heap[b]? = some (.cells #[.int .i64 a0, .int .i64 a1, .int .i64 a2] 58 (0, 0))
/-- a world behind another, and three numbers in it -/
def In3 (w0 y : World) (bv : Nat) : Prop := ∃ z0 z1 z2, Three y bv z0 z1 z2 ∧ Below w0.heap.size w0 y
theorem IsRows.at {w : World} {v : Value} {l : List (Value × List Int)} (h : IsRows w v l) {k : Nat} (hk : k < l.length) : ∃ b off cap oa n c m bm om, v = .slice (some ⟨b, off, none⟩) l.length cap ∧ w.cell? ⟨b, off + k, none⟩ = some (.slice oa n c) ∧ b < w.heap.size ∧ n = m.length ∧ Sl encI w (.slice oa n c) m ∧ m.length ≤ maxLen ∧ (0 < n → oa = some ⟨bm, om, none⟩ ∧ bm < w.heap.size) ∧ ∀ j (h : j < m.length), w.cell? ⟨bm, om + j, none⟩ = some (.int .i64 m[j]) := by
  obtain ⟨h1, h2⟩ := h
  have h3 := h2 _ (List.getElem_mem hk)
  rcases h1 with ⟨rfl, _⟩ | ⟨b, off, cap, rfl, q1, q2, q3⟩
  · simp at hk
  · have q := q3 k hk
    obtain ⟨bm, om, c, oa, e, n1, g1⟩ := h3.1.shape
    simp only [] at q
    rw [e] at q
    refine ⟨b, off, cap, oa, _, c, (l[k]).2, bm, om, rfl, q, Sl.lt q, rfl, by rw [← e]; exact h3.1, h3.1.len, fun hp => ?_, g1⟩
    have e2 := n1 (by intro e0; rw [e0] at hp; simp at hp)
    exact ⟨e2, Sl.lt (g1 0 hp)⟩
end Go.Proofs.Ytanmokomefdaiaa
