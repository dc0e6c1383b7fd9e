import Derived.Test.YtfpmekphkippdaaSymC
import Derived.Shelf.SlSortCmp.Insertion
/-! slices.SortStableFunc, with rate.Fair's closure. -/
namespace Go.Proofs.Ytfpmekphkippdaa
open Go.RowKit Go.Sort Go.Shelf
set_option linter.unusedVariables false
set_option linter.unusedSimpArgs false
set_option linter.unusedSectionVars false
variable {α : Type} [Inhabited α]
theorem symMerge_any (f key : α → Int) (B blk off cap N : Nat) : ∀ (g a m b : Nat) (d : Array α) (w : World), b - a < g → a < m → m < b → b ≤ d.size → d.size = N → N ≤ 1000000 → Holds (encF f) w blk off d → CmpAt f key B blk off d.size w → SortedIn (ltK key) a m d → SortedIn (ltK key) m b d →
    Calls Try.prog 15 #[.slice (some ⟨blk, off, none⟩) d.size cap, .int .i64 a, .int .i64 m, .int .i64 b, .func (.func 8) #[] #[.pointer (some ⟨B, 0, none⟩)]] w (SymE f key blk off a b d w) := by
  intro g
  induction g with
  | zero => intro a m b d w h; omega
  | succ g ih =>
    intro a m b d w hg ham hmb hb hN hN6 hH hC hs1 hs2
    by_cases h1 : a + 1 = m
    · exact symMerge_a f key B blk off cap a m b d w hH hC h1 hmb hb (by omega) hs2
    · by_cases h2 : m + 1 = b
      · exact symMerge_b f key B blk off cap a m b d w hH hC (by omega) h2 hb (by omega) hs1
      · exact symMerge_c f key B blk off cap a m b d w hH hC (by omega) (by omega) hb (by omega) hs1 hs2 (fun a' m' b' d' w' q1 q2 q3 q4 q5 q6 q7 q8 q9 => ih a' m' b' d' w' (by omega) q2 q3 q4 (by omega) hN6 q6 q7 q8 q9)
def insF_ren : Go.Shelf.Ren := ⟨fun | 20 => 14 | n => n, fun | 24 => 3 | 22 => 22 | 25 => 32 | 0 => 0 | 3 => 3 | 4 => 4 | n => n, fun  | n => n⟩
theorem insF : Go.Proofs.SlLaysF.n20 Try.prog insF_ren := {
  mixed := by kernel_rfl
  f20 := ⟨Try.f14.name, by decide, Try.func14.trans (congrArg some (by kernel_rfl))⟩
  t0 := Try.underlying0
  a0 := Try.isAgg0
  z0 := Try.sizeOf0
  v0 := Try.zeroValue0
  t3 := Try.underlying3
  a3 := Try.isAgg3
  z3 := Try.sizeOf3
  v3 := Try.zeroValue3
  t4 := Try.underlying4
  a4 := Try.isAgg4
  z4 := Try.sizeOf4
  v4 := Try.zeroValue4
  t22 := Try.underlying22
  a22 := Try.isAgg22
  z22 := Try.sizeOf22
  v22 := Try.zeroValue22
  a24 := Try.isAgg3
  z24 := Try.sizeOf3
  t25 := Try.underlying32
  a25 := Try.isAgg32
  z25 := Try.sizeOf32
  v25 := Try.zeroValue32 }
theorem ltOf_K (key : α → Int) : Go.Proofs.ltOf (fun x y => key x - key y) = ltK key := by
  funext x y
  show decide (key x - key y < 0) = decide (key x < key y)
  by_cases h : key x < key y
  · rw [decide_eq_true h, decide_eq_true (by omega)]
  · rw [decide_eq_false h, decide_eq_false (by omega)]
theorem insertion_any (f key : α → Int) (B blk off cap a b : Nat) (d : Array α) (w : World) (hH : Holds (encF f) w blk off d)
    (hC2 : Go.Proofs.CmpReads Try.prog 8 #[.pointer (some ⟨B, 0, none⟩)] (encF f) (fun x y => key x - key y) blk off d.size w) (hab : a ≤ b) (hb : b ≤ d.size) (hsz : d.size ≤ 1000000) :
    Calls Try.prog 14 #[.slice (some ⟨blk, off, none⟩) d.size cap, .int .i64 a, .int .i64 b, .func (.func 8) #[] #[.pointer (some ⟨B, 0, none⟩)]] w (SymE f key blk off a b d w) := by
  refine (Go.Proofs.Any.insertionSortCmpFunc_one insF (encF f) (fun x => rfl) (fun x y => key x - key y) 8 #[.pointer (some ⟨B, 0, none⟩)] blk off cap a b d w (enters_of Try.func8 (by kernel_rfl) rfl) hC2 hH hab hb (by omega)).mono ?_
  rintro e w' ⟨h1, q, h2⟩
  rw [ltOf_K] at h2
  have := insertionSort_holds (lt := ltK key) (ltK_swo key) d a b hab hb
  exact ⟨h1, _, q, h2, this.1, this.2⟩
/-- up to a: rows of c, each in order -/
inductive Cut (lt : α → α → Bool) (c : Nat) (D : Array α) : Nat → Prop
  | zero : Cut lt c D 0
  | next {a : Nat} : Cut lt c D a → SortedIn lt a (a + c) D → Cut lt c D (a + c)
/-- from a on: rows of c, each in order, the last one shorter -/
inductive Rest (lt : α → α → Bool) (c n : Nat) (D : Array α) : Nat → Prop
  | last {a : Nat} : n ≤ a + c → SortedIn lt a n D → Rest lt c n D a
  | more {a : Nat} : a + c ≤ n → SortedIn lt a (a + c) D → Rest lt c n D (a + c) → Rest lt c n D a
theorem Cut.congr {lt : α → α → Bool} {c : Nat} {D E : Array α} {a : Nat} (h : Cut lt c D a) (he : ∀ i, i < a → E[i]! = D[i]!) : Cut lt c E a := by
  induction h with
  | zero => exact .zero
  | @next a h hs ih => exact .next (ih fun i hi => he i (by omega)) (fun x y h1 h2 h3 => by rw [he x (by omega), he y h3]; exact hs x y h1 h2 h3)
theorem Rest.congr {lt : α → α → Bool} {c n : Nat} {D E : Array α} {a : Nat} (h : Rest lt c n D a) (he : ∀ i, a ≤ i → E[i]! = D[i]!) : Rest lt c n E a := by
  induction h with
  | last h1 hs => exact .last h1 (fun x y h1 h2 h3 => by rw [he x h1, he y (by omega)]; exact hs x y h1 h2 h3)
  | @more a h1 hs h ih => exact .more h1 (fun x y h1 h2 h3 => by rw [he x h1, he y (by omega)]; exact hs x y h1 h2 h3) (ih fun i hi => he i (by omega))
theorem Cut.rest {lt : α → α → Bool} {c n : Nat} {D : Array α} {a : Nat} (h : Cut lt c D a) (han : a ≤ n) (hr : Rest lt c n D a) : Rest lt c n D 0 := by
  induction h with
  | zero => exact hr
  | @next a h hs ih => exact ih (by omega) (.more han hs hr)
theorem Rest.whole {lt : α → α → Bool} {c n : Nat} {D : Array α} (h : Rest lt c n D 0) (hc : n ≤ c) : SortedIn lt 0 n D := by
  cases h with
  | last _ hs => exact hs
  | more h1 hs _ =>
    obtain rfl : n = 0 + c := by omega
    exact hs
theorem Rest.two {lt : α → α → Bool} {c n : Nat} {D : Array α} {a : Nat} (h : Rest lt c n D a) (hc : 0 < c) (hb : a + 2 * c ≤ n) : SortedIn lt a (a + c) D ∧ SortedIn lt (a + c) (a + 2 * c) D ∧ Rest lt c n D (a + 2 * c) := by
  cases h with
  | last h1 _ => omega
  | more h1 hs h =>
    cases h with
    | last h2 hs2 =>
      obtain rfl : n = a + 2 * c := by omega
      exact ⟨hs, hs2, .last (by omega) (fun x y h1 h2 h3 => by omega)⟩
    | more h2 hs2 h =>
      rw [show a + c + c = a + 2 * c by omega] at hs2 h
      exact ⟨hs, hs2, h⟩
theorem Rest.end2 {lt : α → α → Bool} {c n : Nat} {D : Array α} {a : Nat} (h : Rest lt c n D a) (h1 : a + c < n) (h2 : n < a + 2 * c) : SortedIn lt a (a + c) D ∧ SortedIn lt (a + c) n D := by
  cases h with
  | last h1 _ => omega
  | more _ hs h =>
    cases h with
    | last _ hs2 => exact ⟨hs, hs2⟩
    | more h2 hs2 h => omega
theorem Rest.end1 {lt : α → α → Bool} {c n : Nat} {D : Array α} {a : Nat} (h : Rest lt c n D a) (h1 : n ≤ a + c) : SortedIn lt a n D := by
  cases h with
  | last h1 hs => exact hs
  | more h2 hs h =>
    obtain rfl : n = a + c := by omega
    exact hs
/-- the closure compares, in whatever world of the sort's -/
structure CmpAll (f key : α → Int) (B blk off n : Nat) (w : World) : Prop where
  at_ : CmpAt f key B blk off n w
  reads : ∀ (D : Array α) (q : Nat), D.size = n → Go.Proofs.CmpReads Try.prog 8 #[.pointer (some ⟨B, 0, none⟩)] (encF f) (fun x y => key x - key y) blk off n ((putRow (encF f) w blk off D).drewN q)
theorem CmpAll.ins {f key : α → Int} {B blk off cap : Nat} {d : Array α} {w wr : World} {D : Array α} {q : Nat} (h : CmpAll f key B blk off d.size w) (hH : Holds (encF f) w blk off d) (hD : D.size = d.size) (hw : wr = (putRow (encF f) w blk off D).drewN q) (a b : Nat) (hab : a ≤ b) (hb : b ≤ d.size) (hsz : d.size ≤ 1000000) :
    Calls Try.prog 14 #[.slice (some ⟨blk, off, none⟩) d.size cap, .int .i64 a, .int .i64 b, .func (.func 8) #[] #[.pointer (some ⟨B, 0, none⟩)]] wr (SymE f key blk off a b D wr) := by
  have := insertion_any f key B blk off cap a b D wr (Holds.row hH hD hw) (by rw [hD, hw]; exact h.reads D q hD) hab (by omega) (by omega)
  rw [hD] at this
  exact this
theorem CmpAll.mrg {f key : α → Int} {B blk off cap : Nat} {d : Array α} {w wr : World} {D : Array α} {q : Nat} (h : CmpAll f key B blk off d.size w) (hH : Holds (encF f) w blk off d) (hD : D.size = d.size) (hw : wr = (putRow (encF f) w blk off D).drewN q) (a m b : Nat) (ham : a < m) (hmb : m < b) (hb : b ≤ d.size) (hsz : d.size ≤ 1000000) (h1 : SortedIn (ltK key) a m D) (h2 : SortedIn (ltK key) m b D) :
    Calls Try.prog 15 #[.slice (some ⟨blk, off, none⟩) d.size cap, .int .i64 a, .int .i64 m, .int .i64 b, .func (.func 8) #[] #[.pointer (some ⟨B, 0, none⟩)]] wr (SymE f key blk off a b D wr) := by
  have := symMerge_any f key B blk off cap d.size (b - a + 1) a m b D wr (by omega) ham hmb (by omega) hD hsz (Holds.row hH hD hw) (by rw [hD, hw]; exact h.at_.row D hD q) h1 h2
  rw [hD] at this
  exact this
set_option maxHeartbeats 8000000 in
set_option maxRecDepth 1000000 in
theorem stable_any (f key : α → Int) (B blk off cap : Nat) (d : Array α) (w : World) (hH : Holds (encF f) w blk off d) (hC : CmpAll f key B blk off d.size w) (hsz : d.size ≤ 1000000) :
    Calls Try.prog 12 #[.slice (some ⟨blk, off, none⟩) d.size cap, .int .i64 d.size, .func (.func 8) #[] #[.pointer (some ⟨B, 0, none⟩)]] w (SymE f key blk off 0 d.size d w) := by
  have HST := Lib.hid (show w = (putRow (encF f) w blk off d).drewN 0 from (putRow_self (encF f) w blk off d hH).symm)
  have HH := Lib.hid hH
  have HC := Lib.hid hC
  obtain ⟨n, hn⟩ : ∃ n, d.size = n := ⟨_, rfl⟩
  have HN := Lib.hid hn
  have hn6 : n ≤ 1000000 := by omega
  rw [hn]
  clear hH hC hn hsz
  go_enter Try.func12, Try.ntmps12
  go_upto_region 2 with fail
  go_loopw [7, 8] (fun s7 s8 wr => ∃ (a q : Nat) (D : Array α), a ≤ n ∧ s7 = .int .i64 a ∧ s8 = .int .i64 ((a + 20 : Nat) : Int) ∧ Hid (wr = (putRow (encF f) w blk off D).drewN q) ∧ Hid (PermIn 0 n d D) ∧ Hid (Cut (ltK key) 20 D a)) (fun s7 s8 _ => n + 20 - (intOf s8).toNat)
  case atStart => exact ⟨0, 0, d, by omega, rfl, rfl, HST, Lib.hid (permIn_refl _ _ _), Lib.hid .zero⟩
  case round =>
    as_aux_lemma =>
    obtain ⟨a, q, D, ha, rfl, rfl, HW, HP, HCu⟩ := hrel
    have hDs : D.size = d.size := HP.out.1
    obtain ⟨b, hb⟩ : ∃ b, a + 20 = b := ⟨_, rfl⟩
    rw [hb]
    by_cases hlt : b ≤ n
    · have e1 : (b : Int) ≤ (n : Int) := by omega
      have w1 : IntKind.i64.wrap ((b : Int) + 20) = ((b + 20 : Nat) : Int) := by rw [IntKind.wrap_i64]; omega
      have IN := Lib.hid (HC.out.ins (cap := cap) HH.out hDs HW.out a b (by omega) (by rw [HN.out]; exact hlt) (by rw [HN.out]; exact hn6))
      rw [HN.out] at IN
      have NX := Lib.hid (fun (X : Array α) (q2 : Nat) (hX : X.size = D.size) => row_next HW.out X q2 hX)
      have hbn := HN.out
      have STEP := Lib.hid (show ∀ E : Array α, Mg (ltK key) a b D E → PermIn 0 n d E ∧ Cut (ltK key) 20 E b from fun E h => by
        refine ⟨permIn_trans _ _ _ _ _ HP.out (permIn_mono _ _ _ _ _ _ (by omega) hlt (by omega) h.perm), ?_⟩
        rw [← hb]
        exact .next (HCu.out.congr fun i hi => h.perm.2.1 i (by omega)) (by rw [hb]; exact h.sort))
      have HB := Lib.hid hb
      clear HW hb hbn
      go_wp2_with (go_at_call 14; (with_reducible refine IN.out.mono ?_); rintro x z ⟨rfl, E, q2, rfl, r1⟩)
      go_roundw
      case measure => simp only [intOf]; omega
      case rel => exact ⟨b, q + q2, E, hlt, rfl, rfl, Lib.hid (NX.out E q2 r1.perm.1), Lib.hid (STEP.out E r1).1, Lib.hid (STEP.out E r1).2⟩
    · have e1 : ¬ (b : Int) ≤ (n : Int) := by omega
      have IN := Lib.hid (HC.out.ins (cap := cap) HH.out hDs HW.out a n ha (by rw [HN.out]; exact Nat.le_refl _) (by rw [HN.out]; exact hn6))
      rw [HN.out] at IN
      have NX := Lib.hid (fun (X : Array α) (q2 : Nat) (hX : X.size = D.size) => row_next HW.out X q2 hX)
      have hbn := HN.out
      have STEP := Lib.hid (show ∀ E : Array α, Mg (ltK key) a n D E → PermIn 0 n d E ∧ Rest (ltK key) 20 n E 0 from fun E h => by
        refine ⟨permIn_trans _ _ _ _ _ HP.out (permIn_mono _ _ _ _ _ _ (by omega) (Nat.le_refl _) (by omega) h.perm), ?_⟩
        exact Cut.rest (HCu.out.congr fun i hi => h.perm.2.1 i (by omega)) ha (.last (by omega) h.sort))
      clear HW hbn HP HCu hlt
      go_upto_region 7 with (go_at_call 14; (with_reducible refine IN.out.mono ?_); rintro x z ⟨rfl, E, q2, rfl, r1⟩; have HW1 := Lib.hid (NX.out E q2 r1.perm.1); have ST1 := Lib.hid (STEP.out E r1))
      clear STEP NX IN e1
      have P1 := Lib.hid ST1.out.1
      have R1 := Lib.hid ST1.out.2
      go_loopw [6, 7, 8] (fun s6 s7 s8 wr => ∃ (c q : Nat) (D : Array α), 0 < c ∧ c ≤ 2000000 ∧ s6 = .int .i64 c ∧ Hid (wr = (putRow (encF f) w blk off D).drewN q) ∧ Hid (PermIn 0 n d D) ∧ Hid (Rest (ltK key) c n D 0)) (fun s6 _ _ _ => n - (intOf s6).toNat)
      case atStart => exact ⟨20, q + q2, E, by omega, by omega, rfl, HW1, P1, R1⟩
      case round =>
        as_aux_lemma =>
        clear HW1 ST1 P1 R1
        obtain ⟨c, q, D, hc0, hc, rfl, HW, HP, HR⟩ := hrel
        by_cases hlt : c < n
        · have e1 : (c : Int) < (n : Int) := by omega
          have w1 : IntKind.i64.wrap (2 * (c : Int)) = ((2 * c : Nat) : Int) := by rw [IntKind.wrap_i64]; omega
          have w2 : IntKind.i64.wrap ((c : Int) * 2) = ((2 * c : Nat) : Int) := by rw [IntKind.wrap_i64]; omega
          obtain ⟨c2, hc2⟩ : ∃ c2, 2 * c = c2 := ⟨_, rfl⟩
          rw [hc2] at w1 w2
          go_upto_region 9 with fail
          go_loopw [7, 8] (fun s7 s8 wr => ∃ (a q : Nat) (D : Array α), a ≤ n ∧ s7 = .int .i64 a ∧ s8 = .int .i64 ((a + c2 : Nat) : Int) ∧ Hid (wr = (putRow (encF f) w blk off D).drewN q) ∧ Hid (PermIn 0 n d D) ∧ Hid (Cut (ltK key) c2 D a) ∧ Hid (Rest (ltK key) c n D a)) (fun s7 s8 _ => n + c2 - (intOf s8).toNat)
          case atStart => exact ⟨0, q, D, by omega, rfl, by simp, HW, HP, Lib.hid .zero, HR⟩
          case round =>
            as_aux_lemma =>
            clear HW HP HR
            obtain ⟨a, q, D, ha, rfl, rfl, HW, HP, HCu, HR⟩ := hrel
            have hDs : D.size = d.size := HP.out.1
            have hdn := HN.out
            obtain ⟨b, hb⟩ : ∃ b, a + c2 = b := ⟨_, rfl⟩
            obtain ⟨m, hm⟩ : ∃ m, a + c = m := ⟨_, rfl⟩
            rw [hb]
            have w3 : IntKind.i64.wrap ((a : Int) + (c : Int)) = (m : Int) := by rw [IntKind.wrap_i64]; omega
            have w4 : IntKind.i64.wrap ((b : Int) + (c2 : Int)) = ((b + c2 : Nat) : Int) := by rw [IntKind.wrap_i64]; omega
            have NX := Lib.hid (fun (X : Array α) (q2 : Nat) (hX : X.size = D.size) => row_next HW.out X q2 hX)
            by_cases hlb : b ≤ n
            · have e2 : (b : Int) ≤ (n : Int) := by omega
              obtain ⟨r1, r2, r3⟩ := HR.out.two hc0 (by omega)
              rw [hm] at r1 r2
              rw [show a + 2 * c = b by omega] at r2 r3
              have IN := Lib.hid (HC.out.mrg (cap := cap) HH.out hDs HW.out a m b (by omega) (by omega) (by rw [hdn]; exact hlb) (by rw [hdn]; exact hn6) r1 r2)
              rw [hdn] at IN
              have STEP := Lib.hid (show ∀ E : Array α, Mg (ltK key) a b D E → PermIn 0 n d E ∧ Cut (ltK key) c2 E b ∧ Rest (ltK key) c n E b from fun E h => by
                refine ⟨permIn_trans _ _ _ _ _ HP.out (permIn_mono _ _ _ _ _ _ (by omega) hlb (by omega) h.perm), ?_, r3.congr fun i hi => h.perm.2.1 i (by omega)⟩
                rw [← hb]
                exact .next (HCu.out.congr fun i hi => h.perm.2.1 i (by omega)) (by rw [hb]; exact h.sort))
              have hbc : b < b + c2 := by omega
              clear HW HP HCu HR hb hm hdn hDs r1 r2 r3
              go_wp2_with (go_at_call 15; (with_reducible refine IN.out.mono ?_); rintro x z ⟨rfl, E, q2, rfl, r1⟩)
              go_roundw
              case measure => simp only [intOf]; omega
              case rel => exact ⟨b, q + q2, E, hlb, rfl, by simp, Lib.hid (NX.out E q2 r1.perm.1), Lib.hid (STEP.out E r1).1, Lib.hid (STEP.out E r1).2.1, Lib.hid (STEP.out E r1).2.2⟩
            · have e2 : ¬ (b : Int) ≤ (n : Int) := by omega
              by_cases hmn : m < n
              · have e3 : (m : Int) < (n : Int) := by omega
                obtain ⟨r1, r2⟩ := HR.out.end2 (by omega) (by omega)
                rw [hm] at r1 r2
                have IN := Lib.hid (HC.out.mrg (cap := cap) HH.out hDs HW.out a m n (by omega) (by omega) (by rw [hdn]; exact Nat.le_refl _) (by rw [hdn]; exact hn6) r1 r2)
                rw [hdn] at IN
                have STEP := Lib.hid (show ∀ E : Array α, Mg (ltK key) a n D E → PermIn 0 n d E ∧ Rest (ltK key) c2 n E 0 from fun E h => by
                  refine ⟨permIn_trans _ _ _ _ _ HP.out (permIn_mono _ _ _ _ _ _ (by omega) (Nat.le_refl _) (by omega) h.perm), ?_⟩
                  exact Cut.rest (HCu.out.congr fun i hi => h.perm.2.1 i (by omega)) ha (.last (by omega) h.sort))
                clear HW HP HCu HR hb hm hdn hDs r1 r2 w4
                go_wp2_with (go_at_call 15; (with_reducible refine IN.out.mono ?_); rintro x z ⟨rfl, E, q2, rfl, r1⟩)
                go_roundw
                case measure => simp only [intOf]; omega
                case rel => exact ⟨c2, q + q2, E, by omega, by omega, rfl, Lib.hid (NX.out E q2 r1.perm.1), Lib.hid (STEP.out E r1).1, Lib.hid (STEP.out E r1).2⟩
              · have e3 : ¬ (m : Int) < (n : Int) := by omega
                have RR := Lib.hid (show Rest (ltK key) c2 n D 0 from Cut.rest HCu.out ha (.last (by omega) (HR.out.end1 (by omega))))
                clear HCu HR hb hm hdn hDs w4 NX
                go_wp2_with fail
                go_roundw
                case measure => simp only [intOf]; omega
                case rel => exact ⟨c2, q, D, by omega, by omega, rfl, HW, HP, RR⟩
        · have e1 : ¬ (c : Int) < (n : Int) := by omega
          have SS := Lib.hid (HR.out.whole (by omega))
          clear HR
          go_wp2_with fail
          go_end0
          exact ⟨rfl, D, q, HW.out, HP.out, SS.out⟩
end Go.Proofs.Ytfpmekphkippdaa
