import Derived.Test.YtggfhcidmnageaaDoorAlike
import Derived.Test.YtggfhcidmnageaaDoorIRow
import Derived.Test.YtggfhcidmnageaaDoorErrE
import Derived.Test.YtggfhcidmnageaaDoorRecs
/-! audit.places. -/
namespace Go.Proofs.YtggfhcidmnageaaDoor
open Go.RowKit
set_option linter.unusedVariables false
set_option linter.unusedSimpArgs false
/-- numbers as ints -/
def Pl.ci (c : List Nat) : List Int := c.map fun (n : Nat) => (n : Int)
theorem Pl.ci_len (c : List Nat) : (Pl.ci c).length = c.length := by simp [Pl.ci]
theorem Pl.NextAt.of {S : List Pk} {g : Pk} {f : Nat} {k : Int} (h : FirstIx (fun x => Pl.alikeP x g) (S.drop f) k) : (k = -1 ∧ Pl.NoneAt S g f) ∨ ∃ j : Nat, k = j ∧ Pl.NextAt S g f (f + j) := by
  rcases h with ⟨rfl, h⟩ | ⟨j, hj, rfl, h1, h2⟩
  · refine .inl ⟨rfl, fun j x hj hx => h x ?_⟩
    have : (S.drop f)[j - f]? = some x := by rw [List.getElem?_drop, show f + (j - f) = j by omega]; exact hx
    exact List.mem_of_getElem? this
  · refine .inr ⟨j, rfl, by omega, ⟨(S.drop f)[j], by rw [← List.getElem?_drop]; exact List.getElem?_eq_getElem hj, h1⟩, fun i x hi hij hx => ?_⟩
    have hi2 : i - f < (S.drop f).length := by omega
    have : (S.drop f)[i - f]? = some x := by rw [List.getElem?_drop, show f + (i - f) = i by omega]; exact hx
    rw [List.getElem?_eq_getElem hi2] at this
    have := h2 (i - f) (by omega)
    simp_all
set_option maxRecDepth 100000 in
set_option maxHeartbeats 4000000 in
theorem places_any (v1 v2 : Value) (S G : List Pk) (w : World) (h1 : IsPks w v1 S) (h2 : IsPks w v2 G) :
    Calls Tryd.prog 17 #[v1, v2] w fun e w' => ∃ (v : Value) (c : List Nat) (at_ f : Int), e = .returned (.tuple #[v, .int .i64 at_, errV f]) ∧ Pl.PlacesR S G c at_ f ∧ IRow w' w.heap.size v (Pl.ci c) ∧ Below w.heap.size w w' := by
  obtain ⟨o1, c1, rfl, l1, m1, n1, -⟩ := pks_open h1
  obtain ⟨o2, c2, rfl, l2, m2, n2, -⟩ := pks_open h2
  have H1 := Lib.hid (show IsPks w (.slice o1 S.length c1) S from h1)
  have H2 := Lib.hid (show IsPks w (.slice o2 G.length c2) G from h2)
  have N1 := Lib.hid n1
  unfold maxLen at m1 m2
  clear h1 h2 n1 n2
  by_cases hs : 1000 < S.length ∨ 1000 < G.length
  · have HR := Lib.hid (show Pl.PlacesR S G [] 0 4 from .inl ⟨hs, rfl, rfl, rfl⟩)
    by_cases hs1 : 1000 < S.length
    · clear hs
      go_enter Tryd.func17, Tryd.ntmps17
      go_wp2_with fail
      go_ret3
      exact ⟨_, [], 0, 4, rfl, HR.out, IRow.nil _ _, Below.refl _ _⟩
    · have hs2 : 1000 < G.length := by omega
      clear hs
      go_enter Tryd.func17, Tryd.ntmps17
      go_wp2_with fail
      go_ret3
      exact ⟨_, [], 0, 4, rfl, HR.out, IRow.nil _ _, Below.refl _ _⟩
  have hs1 : S.length ≤ 1000 := by omega
  have hs2 : G.length ≤ 1000 := by omega
  clear hs
  have HOK := Lib.hid (show ∀ c f, Pl.Chn S G G.length c f → Pl.PlacesR S G c 0 0 from fun c f h => .inr ⟨⟨hs1, hs2⟩, .inl ⟨f, h, rfl, rfl⟩⟩)
  have HNO := Lib.hid (show ∀ (n : Nat) c f g, Pl.Chn S G n c f → G[n]? = some g → Pl.NoneAt S g f → Pl.PlacesR S G [] n 5 from fun n c f g a b d => .inr ⟨⟨hs1, hs2⟩, .inr ⟨n, c, f, g, a, b, d, rfl, rfl, rfl⟩⟩)
  go_enter Tryd.func17, Tryd.ntmps17
  go_upto_region 5 with fail
  go_loopw [4, 7, 22] (fun s4 s7 s22 wr => ∃ (i f : Nat) (c : List Nat), i ≤ G.length ∧ f ≤ S.length ∧ c.length = i ∧ s22 = .int .i64 i ∧ s7 = .int .i64 f ∧ Hid (Pl.Chn S G i c f) ∧ Hid (IRow wr w.heap.size s4 (Pl.ci c)) ∧ Hid (Below w.heap.size w wr)) (fun _ _ s22 _ => G.length - (intOf s22).toNat)
  case atStart => exact ⟨0, 0, [], by omega, by omega, rfl, rfl, rfl, Lib.hid .nil, Lib.hid (IRow.nil _ _), Lib.hid (Below.refl _ _)⟩
  case round =>
    obtain ⟨i, f, c, hi, hf, hc, rfl, rfl, HC, RO, KB⟩ := hrel
    by_cases hlt : i < G.length
    · obtain ⟨_, _, e, -, -, -, rd⟩ := pks_open (IsPks.below H2.out KB.out)
      cases e
      obtain ⟨b, o, rfl, hb, q0, q1, q2, q3, q4, q5, gd⟩ := rd i hlt
      have HGi := Lib.hid (show G[i]? = some G[i] from List.getElem?_eq_getElem hlt)
      have GD := Lib.hid gd.2.2.2.2
      clear rd gd
      generalize G[i] = g at *
      obtain ⟨x0, x1, x2, x3, x4, x5, x6⟩ := g
      dsimp only at q0 q1 q2 q3 q4 q5 GD
      obtain ⟨ob, cb, rfl, -⟩ := bytes_slice GD.out
      go_upto_region 7 with fail
      obtain ⟨B, hBz⟩ : ∃ B, wr.heap.size = B := ⟨_, rfl⟩
      have hwB : w.heap.size ≤ wr.heap.size := KB.out.size
      refine abs_t (fun y => Hid (PkIn y wr.heap.size x0 x1 x2 x3 x4 (.slice ob x6.length cb)) ∧ Hid (IsBytes y (.slice ob x6.length cb) x6) ∧ Hid (IRow y w.heap.size u4 (Pl.ci c)) ∧ Hid (Below w.heap.size w y)) ⟨Lib.hid (obj_new _ _), Lib.hid (GD.out.below ((Below.refl _ _).alloc (Nat.le_refl _) _)), Lib.hid (RO.out.alloc _), Lib.hid (KB.out.alloc hwB _)⟩ ?_
      rw [hBz]
      clear q0 q1 q2 q3 q4 q5 RO GD KB hBz
      rintro y ⟨PB, BB, RO, KB⟩
      have PI := Lib.hid (fun (v : Value) (L : List Pk) (hL : IsPks y v L) => pkindex_any ⟨x0, x1, x2, x3, x4, .slice ob x6.length cb, x6⟩ B v L y PB.out BB.out hL)
      have HSy := Lib.hid (IsPks.below H1.out KB.out)
      have N1c := N1.out
      go_cut [10] from 27 to 32 (fun v z => ∃ k : Int, v = .int .i64 k ∧ Hid (FirstIx (fun x => Pl.alikeP x ⟨x0, x1, x2, x3, x4, .slice ob x6.length cb, x6⟩) (S.drop f) k) ∧ Hid (Below y.heap.size y z))
      case first =>
        rcases o1 with _ | ⟨a1, a2, a3⟩
        · have e1 := N1c rfl
          subst e1
          obtain rfl : S = [] := List.eq_nil_of_length_eq_zero (by omega)
          obtain rfl : f = 0 := by simpa using hf
          have HD := Lib.hid (show IsPks y (.slice none 0 0) (([] : List Pk).drop 0) from HSy.out)
          go_wp2_with (go_at_call 24; (with_reducible refine (PI.out _ _ HD.out).mono ?_); rintro e z ⟨k, rfl, fk, kk⟩; have FK := Lib.hid fk; have KK := Lib.hid kk; clear fk kk)
          go_meet
          exact ⟨_, rfl, FK, KK⟩
        · by_cases hfc : f < c1
          · have HD := Lib.hid (show IsPks y (.slice (some (Addr.add ⟨a1, a2, a3⟩ (f * 6))) (S.length - f) (c1 - f)) (S.drop f) from IsPks.drop HSy.out f hf _ (fun b f' e _ => by cases e; rw [Addr.add_lit]) (fun e => by cases e))
            go_wp2_with (go_at_call 24; (with_reducible refine (PI.out _ _ HD.out).mono ?_); rintro e z ⟨k, rfl, fk, kk⟩; have FK := Lib.hid fk; have KK := Lib.hid kk; clear fk kk)
            go_meet
            exact ⟨_, rfl, FK, KK⟩
          · obtain rfl : c1 = f := by omega
            have HD := Lib.hid (show IsPks y (.slice (some ⟨a1, a2, a3⟩) 0 0) (S.drop c1) from by
              have q := IsPks.drop HSy.out c1 hf (some ⟨a1, a2, a3⟩) (fun b f' e h => absurd h (Nat.lt_irrefl _)) (fun e => by cases e)
              rw [show S.length - c1 = 0 by omega, Nat.sub_self] at q
              exact q)
            go_wp2_with (go_at_call 24; (with_reducible refine (PI.out _ _ HD.out).mono ?_); rintro e z ⟨k, rfl, fk, kk⟩; have FK := Lib.hid fk; have KK := Lib.hid kk; clear fk kk)
            go_meet
            exact ⟨_, rfl, FK, KK⟩
      case rest =>
      clear N1c PI HSy
      obtain ⟨k, rfl, FK, KK⟩ := hcut
      have RO2 := Lib.hid (RO.out.below KK.out)
      have hwy := KB.out.size
      have KB2 := Lib.hid (KB.out.trans (KK.out.mono hwy))
      clear RO KB KK PB BB
      rcases Pl.NextAt.of FK.out with ⟨rfl, hno⟩ | ⟨j, rfl, hat⟩
      · have HR := Lib.hid (HNO.out _ _ _ _ HC.out HGi.out hno)
        clear hno FK
        go_wp2_with fail
        go_ret3
        exact ⟨_, [], i, 5, rfl, HR.out, IRow.nil _ _, KB2.out⟩
      · have hjl := hat.lt
        have HC2 := Lib.hid (Pl.Chn.snoc HC.out HGi.out hat)
        clear hat FK
        obtain ⟨gN, capN, wN, hr, ro, kn⟩ := IRow.more RO2.out ((f : Int) + j) (by rw [Pl.ci_len]; omega) KB2.out (Nat.le_refl _)
        have HR := Lib.hid hr
        have RO3 := Lib.hid ro
        have KB3 := Lib.hid kn
        clear hr ro kn RO2 KB2
        go_upto_region 11 with (at_builtin; refine Lib.wpList_append_run _ rfl (.tmp 36) (.tmp 40) 22 22 rfl _ _ rfl rfl _ _ HR.out ?_)
        go_wp2_with fail
        go_roundw
        case measure => simp [intOf]; omega
        case rel => exact ⟨i + 1, f + j + 1, c ++ [f + j], by omega, by omega, by simp; omega, by go_num, by go_num, HC2, Lib.hid (by have := RO3.out; simpa [Pl.ci] using this), KB3⟩
    · obtain rfl : G.length = i := by omega
      have HR := Lib.hid (HOK.out _ _ HC.out)
      go_wp2_with fail
      go_ret3
      exact ⟨_, c, 0, 0, rfl, HR.out, RO.out, KB.out⟩
end Go.Proofs.YtggfhcidmnageaaDoor
