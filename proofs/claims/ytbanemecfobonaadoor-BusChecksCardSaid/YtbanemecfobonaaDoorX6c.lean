/- Division and greatest common divisors of lists of words, and what sets a ratio. -/
import Derived.Test.YtbanemecfobonaaDoorX6b
namespace Go.Proofs.YtbanemecfobonaaDoor.B
open Go.RowKit Go.Proofs.YtbanemecfobonaaDoorW.PrintWords Go.Proofs.YtbanemecfobonaaDoorW.PrintLast Go.Proofs.YtbanemecfobonaaDoorW.PrintMore
set_option linter.unusedVariables false
set_option linter.unusedSimpArgs false

/-- What a division function answers: quotient and rest. -/
def DivOk (Div : List Int → List Int → Option (List Int × List Int)) : Prop :=
  ∀ (A0 A1 : Option Addr) (c0 c1 : Nat) (l0 l1 q r : List Int) (w : World), WA w A0 c0 l0 → WA w A1 c1 l1 → Div l0 l1 = some (q, r) →
    Calls Tryd.prog 132 #[.slice A0 l0.length c0, .slice A1 l1.length c1] w fun e w' => ∃ Aq cq Ar cr, e = .returned (.tuple #[.slice Aq q.length cq, .slice Ar r.length cr]) ∧ WA w' Aq cq q ∧ WA w' Ar cr r ∧ Below w.heap.size w w'

/-- Division of numbers of at most 64 bits. -/
def divS (k : Nat) (a b : List Int) : Option (List Int × List Int) :=
  (big_compare.f k a b).bind fun c => if c < 0 then some ([], a) else (big_words_small.f a).bind fun x => if x.2 = true then (big_words_small.f b).bind fun y => if 0 ≤ x.1 ∧ x.1 < 18446744073709551616 ∧ 0 < y.1 ∧ y.1 < 18446744073709551616 then (big_of.f k (x.1 / y.1)).bind fun q => (big_of.f k (x.1 % y.1)).bind fun r => some (q, r) else none else none

set_option maxHeartbeats 800000 in
set_option maxRecDepth 100000 in
theorem divS_ok (k : Nat) : DivOk (divS k) := by
  intro A0 A1 c0 c1 l0 l1 q r w h0 h1 h
  unfold divS at h
  obtain ⟨c, hc, h⟩ := Option.bind_eq_some_iff.mp h
  have H0 := Aside0.mk h0
  have H1 := Aside0.mk h1
  have HC := Aside0.mk hc
  have H0c := Aside0.mk h0.2.1
  have H1c := Aside0.mk h1.2.1
  clear h0 h1 hc
  by_cases hlt : c < 0
  · rw [if_pos hlt] at h
    simp only [Option.some.injEq, Prod.mk.injEq] at h
    obtain ⟨rfl, rfl⟩ := h
    have t1 : decide (c < 0) = true := decide_eq_true hlt
    clear hlt
    go_enter Tryd.func132, Tryd.ntmps132
    go_wp2_with (first | (go_at_call 105; refine (big_compare.calls k A0 c0 l0 A1 c1 l1 c _ (by repeat (first | exact H0.out.1 | refine Kd.C_drewN ?_ _)) H0.out.2.1 (by repeat (first | exact H1.out.1 | refine Kd.C_drewN ?_ _)) H1.out.2.1 HC.out).mono ?_; rintro e w1 ⟨rfl, ⟨nd, rfl⟩⟩))
    first | go_ret2 | go_ret
    exact ⟨none, 0, A0, c0, rfl, WA.nil _, H0.out.drewN _, pw_below_drewN (Below.refl _ _) _⟩
  · rw [if_neg hlt] at h
    have t1 : decide (c < 0) = false := decide_eq_false hlt
    clear hlt
    obtain ⟨⟨x, bx⟩, hx, h⟩ := Option.bind_eq_some_iff.mp h
    dsimp only at h
    by_cases hbx : bx = true
    · subst hbx
      rw [if_pos rfl] at h
      obtain ⟨⟨y, b_y⟩, hy, h⟩ := Option.bind_eq_some_iff.mp h
      dsimp only at h
      by_cases hb : 0 ≤ x ∧ x < 18446744073709551616 ∧ 0 < y ∧ y < 18446744073709551616
      · rw [if_pos hb] at h
        obtain ⟨b1, b2, b3, b4⟩ := hb
        obtain ⟨q', hq, h⟩ := Option.bind_eq_some_iff.mp h
        obtain ⟨r', hr, h⟩ := Option.bind_eq_some_iff.mp h
        simp only [Option.some.injEq, Prod.mk.injEq] at h
        obtain ⟨rfl, rfl⟩ := h
        have e1 : IntKind.u64.wrap (x.tdiv y) = x / y := by
          rw [Int.tdiv_eq_ediv_of_nonneg b1]
          have : 0 ≤ x / y := Int.ediv_nonneg b1 (by omega)
          have : x / y ≤ x := Int.ediv_le_self _ b1
          exact IntWalk.u64_in _ ⟨by omega, by omega⟩
        have e2 : x.tmod y = x % y := Int.tmod_eq_emod_of_nonneg b1
        have HX := Aside0.mk hx
        have HY := Aside0.mk hy
        have HQ := Aside0.mk hq
        have HR := Aside0.mk hr
        have hy0 : (y == 0) = false := beq_eq_false_iff_ne.mpr (by omega)
        have hy1 : ¬ y = 0 := by omega
        have e1' := e1
        have e2' : IntKind.u64.wrap (x.tmod y) = x % y := by
          rw [e2]
          have : 0 ≤ x % y := Int.emod_nonneg _ (by omega)
          have : x % y < y := Int.emod_lt_of_pos _ b3
          exact IntWalk.u64_in _ ⟨by omega, by omega⟩
        clear hx hy hq hr
        go_enter Tryd.func132, Tryd.ntmps132
        go_wp2_with (first | (go_at_call 105; refine (big_compare.calls k A0 c0 l0 A1 c1 l1 c _ (by repeat (first | exact H0.out.1 | refine Kd.C_drewN ?_ _)) H0.out.2.1 (by repeat (first | exact H1.out.1 | refine Kd.C_drewN ?_ _)) H1.out.2.1 HC.out).mono ?_; rintro e w1 ⟨rfl, ⟨nd, rfl⟩⟩) | (go_at_call 110; (with_reducible refine (big_words_small.calls A0 c0 l0 x true _ ?q1 H0c.out HX.out).mono ?_); (case q1 => exact by repeat (first | exact H0.out.1 | refine Kd.C_drewN ?_ _)); rintro e w1 ⟨rfl, ⟨nd1, rfl⟩⟩) | (go_at_call 110; (with_reducible refine (big_words_small.calls A1 c1 l1 y b_y _ ?q1 H1c.out HY.out).mono ?_); (case q1 => exact by repeat (first | exact H1.out.1 | refine Kd.C_drewN ?_ _)); rintro e w1 ⟨rfl, ⟨nd2, rfl⟩⟩))
        have g1 : ∀ w, Calls Tryd.prog 103 #[.int .u64 (x / y)] w fun e w' => ∃ A c, e = .returned (.slice A q'.length c) ∧ WA w' A c q' ∧ Below w.heap.size w w' := fun w => (big_of.calls k (x / y) q' w HQ.out).mono fun e w' ⟨v, he, hv, hb⟩ => by
          obtain ⟨A, c, rfl, ha⟩ := WA.of_R hv
          exact ⟨A, c, he, ha, hb⟩
        have g2 : ∀ w, Calls Tryd.prog 103 #[.int .u64 (x % y)] w fun e w' => ∃ A c, e = .returned (.slice A r'.length c) ∧ WA w' A c r' ∧ Below w.heap.size w w' := fun w => (big_of.calls k (x % y) r' w HR.out).mono fun e w' ⟨v, he, hv, hb⟩ => by
          obtain ⟨A, c, rfl, ha⟩ := WA.of_R hv
          exact ⟨A, c, he, ha, hb⟩
        replace g1 := Aside0.mk g1
        replace g2 := Aside0.mk g2
        clear HX HY HQ HR
        go_region_with (first | (go_at_call 103; (with_reducible refine (g1.out _).mono ?_); rintro e w1 ⟨Aq, cq, rfl, ha1, hb1⟩; replace hb1 : Below w.heap.size w w1 := ⟨hb1.os, hb1.tape, hb1.output, hb1.size, hb1.block⟩; replace ha1 := Aside0.mk ha1; replace hb1 := Aside0.mk hb1) | (go_at_call 103; (with_reducible refine (g2.out _).mono ?_); rintro e w2 ⟨Ar, cr, rfl, ha2, hb2⟩; replace ha2 := Aside0.mk ha2; replace hb2 := Aside0.mk hb2))
        all_goals (go_wp2; (first | go_ret2 | go_ret); exact ⟨Aq, cq, Ar, cr, rfl, ha1.out.below hb2.out, ha2.out, below_step hb1.out hb2.out⟩)
      · rw [if_neg hb] at h
        exact absurd h (by simp)
    · rw [if_neg hbx] at h
      exact absurd h (by simp)

set_option maxHeartbeats 800000 in
set_option maxRecDepth 100000 in
theorem big_Rat_Denom.calls (g : Nat) (v0 v1 : Value) (t : TypeId) (A : Option Addr) (c : Nat) (l : List Int) (w : World) (hg : w.heap[g]? = some (.cells #[v0, v1, .slice A l.length c] t (0, 0))) (hA : WA w A c l) :
    Calls Tryd.prog 73 #[.pointer (some ⟨g, 0, none⟩)] w fun e w' => ∃ g', e = .returned (.pointer (some ⟨g', 0, none⟩)) ∧ w.heap.size ≤ g' ∧ Below w.heap.size w w' ∧ ∃ A' c', WA w' A' c' (if l.length = 0 then [1] else l) ∧ w'.heap[g']? = some (.cells #[.bool false, .slice A' (if l.length = 0 then [1] else l).length c'] 121 (0, 0)) := by
  have HG := Aside0.mk hg
  have HA := Aside0.mk hA
  clear hg hA
  generalize hL : (if l.length = 0 then [1] else l) = L
  replace hL := Aside0.mk hL
  go_enter Tryd.func73, Tryd.ntmps73
  go_wp2_with (first | (go_at_call 109; refine (big_Rat_below.calls g v0 v1 t A c l _ (by exact blk_alloc HG.out _) (HA.out.alloc _)).mono ?_; rintro e w1 ⟨A', c', hw, rfl, hb⟩; rw [hL.out] at hw ⊢; replace hw := Aside0.mk hw; replace hb := Aside0.mk hb) | (go_at_call 108; refine (big_Int_set.calls w.heap.size #[.bool false, .slice none 0 0] 121 _ A' c' L _ (blk_below (blk_new w _) hb.out) (by simp)).mono ?_; rintro e w2 ⟨rfl, hk, hz, he⟩; replace hk := Aside0.mk hk; replace he := Aside0.mk he))
  go_ret
  exact ⟨_, rfl, Nat.le_refl _, hk.out.below (below_step (below_alloc (Below.refl _ _) _) hb.out) (Nat.le_refl _), A', c', hw.out.keep (blk_below (blk_new w _) hb.out) (by decide) hk.out.2, he.out.trans (by simp)⟩

/-- The greatest common divisor of two numbers of 64 bits. -/
def gcdL (x y : Int) : Option Int := if 0 ≤ x ∧ x < 18446744073709551616 ∧ 0 ≤ y ∧ y < 18446744073709551616 then some (Int.gcd x y : Int) else none
/-- The greatest common divisor of two lists of words, by a division. -/
def commonF (Div : List Int → List Int → Option (List Int × List Int)) (k : Nat) : Nat → List Int → List Int → Option (List Int)
  | 0, _, _ => none
  | n + 1, a, b => if b.length = 0 then some a else (big_words_small.f a).bind fun x => if x.2 = true then (big_words_small.f b).bind fun y => if y.2 = true then (gcdL x.1 y.1).bind fun g => big_of.f k g else (Div a b).bind fun qr => commonF Div k n b qr.2 else (Div a b).bind fun qr => commonF Div k n b qr.2

theorem gcd_step (x y : Int) (hx : 0 ≤ x) (hy : 0 ≤ y) : Int.gcd y (x % y) = Int.gcd x y := by
  obtain ⟨m, rfl⟩ := Int.eq_ofNat_of_zero_le hx
  obtain ⟨n, rfl⟩ := Int.eq_ofNat_of_zero_le hy
  rw [← Int.natCast_emod, Int.gcd_natCast_natCast, Int.gcd_natCast_natCast, Nat.gcd_comm m n, Nat.gcd_rec n m, Nat.gcd_comm]

set_option maxHeartbeats 800000 in
set_option maxRecDepth 100000 in
theorem big_common.calls (Div : List Int → List Int → Option (List Int × List Int)) (hD : DivOk Div) (k n : Nat) (A0 A1 : Option Addr) (c0 c1 : Nat) (l0 l1 r : List Int) (w : World) (h0 : WA w A0 c0 l0) (h1 : WA w A1 c1 l1) (h : commonF Div k n l0 l1 = some r) :
    Calls Tryd.prog 131 #[.slice A0 l0.length c0, .slice A1 l1.length c1] w fun e w' => ∃ A c, e = .returned (.slice A r.length c) ∧ WA w' A c r ∧ Below w.heap.size w w' := by
  have H0 := Aside0.mk h0
  have H1 := Aside0.mk h1
  have H' := Aside0.mk h
  clear h h0 h1
  go_enter Tryd.func131, Tryd.ntmps131
  go_wp2
  go_loopg [0, 1] n (fun gq v0 v1 w' => ∃ (a b : List Int) (Aa Ab : Option Addr) (ca cb : Nat), v0 = .slice Aa a.length ca ∧ v1 = .slice Ab b.length cb ∧ Aside0 (commonF Div k gq a b = some r) ∧ Aside0 (WA w' Aa ca a) ∧ Aside0 (WA w' Ab cb b) ∧ Aside0 (Below w.heap.size w w') ∧ Aside0 (gq ≤ n))
  case atStart => exact ⟨l0, l1, A0, A1, c0, c1, rfl, rfl, H', H0, H1, ⟨Below.refl _ _⟩, ⟨Nat.le_refl _⟩⟩
  case round =>
    obtain ⟨a, b, Aa, Ab, ca, cb, rfl, rfl, HA, HWa, HWb, HB, HK⟩ := hrel
    cases gk with
    | zero => exact absurd HA.out (by simp [commonF])
    | succ k1 =>
      have H := HA.out
      clear HA H' H0 H1
      simp only [commonF] at H
      by_cases hb0 : b.length = 0
      · rw [if_pos hb0] at H
        obtain rfl := Option.some.inj H
        have t0 : decide (0 < (b.length : Int)) = false := decide_eq_false (by omega)
        have t1 : decide (0 < b.length) = false := decide_eq_false (by omega)
        go_wp2
        go_ret
        exact ⟨Aa, ca, rfl, HWa.out, HB.out⟩
      · rw [if_neg hb0] at H
        have t0 : decide (0 < (b.length : Int)) = true := decide_eq_true (by omega)
        have t1 : decide (0 < b.length) = true := decide_eq_true (by omega)
        clear hb0
        obtain ⟨⟨x, bx⟩, hx, H⟩ := Option.bind_eq_some_iff.mp H
        dsimp only at H
        have HX := Aside0.mk hx
        have HWar := Aside0.mk HWa.out.1
        have HWac := Aside0.mk HWa.out.2.1
        have HWbr := Aside0.mk HWb.out.1
        have HWbc := Aside0.mk HWb.out.2.1
        clear hx
        have step : ∀ (H : ((Div a b).bind fun qr => commonF Div k k1 b qr.2) = some r), ∃ q r', Div a b = some (q, r') ∧ commonF Div k k1 b r' = some r := fun H => by
          obtain ⟨⟨q, r'⟩, h1, h2⟩ := Option.bind_eq_some_iff.mp H
          exact ⟨q, r', h1, h2⟩
        replace step := Aside0.mk step
        by_cases hbx : bx = true
        · subst hbx
          rw [if_pos rfl] at H
          obtain ⟨⟨y, b_y⟩, hy, H⟩ := Option.bind_eq_some_iff.mp H
          dsimp only at H
          have HY := Aside0.mk hy
          clear hy
          by_cases hby : b_y = true
          · subst hby
            rw [if_pos rfl] at H
            obtain ⟨gg, hg, H⟩ := Option.bind_eq_some_iff.mp H
            have HG := Aside0.mk hg
            have HO := Aside0.mk H
            clear hg H step
            go_wp2_with (first | (go_at_call 110; (with_reducible refine (big_words_small.calls Aa ca a x true _ ?q1 HWac.out HX.out).mono ?_); (case q1 => exact by repeat (first | exact HWar.out | refine Kd.C_drewN ?_ _)); rintro e w1 ⟨rfl, ⟨nd1, rfl⟩⟩) | (go_at_call 110; (with_reducible refine (big_words_small.calls Ab cb b y true _ ?q1 HWbc.out HY.out).mono ?_); (case q1 => exact by repeat (first | exact HWbr.out | refine Kd.C_drewN ?_ _)); rintro e w1 ⟨rfl, ⟨nd2, rfl⟩⟩))
            have hgg : (0 ≤ x ∧ x < 18446744073709551616 ∧ 0 ≤ y ∧ y < 18446744073709551616) ∧ gg = (Int.gcd x y : Int) := by
              have hh := HG.out
              unfold gcdL at hh
              split at hh
              · rename_i hc
                exact ⟨hc, (Option.some.inj hh).symm⟩
              · exact absurd hh (by simp)
            obtain ⟨⟨x0, x1, y0, y1⟩, hge⟩ := hgg
            replace hge := Aside0.mk hge
            clear HG
            go_loopg [5, 7] y.toNat (fun gq v5 v7 w' => ∃ (x2 y2 : Int), v5 = .int .u64 x2 ∧ v7 = .int .u64 y2 ∧ Aside0 (0 ≤ x2 ∧ x2 < 18446744073709551616 ∧ 0 ≤ y2 ∧ y2 < 18446744073709551616) ∧ Aside0 (Int.gcd x2 y2 = Int.gcd x y) ∧ Aside0 (y2.toNat ≤ gq) ∧ Aside0 (Below w.heap.size w w'))
            case atStart => exact ⟨x, y, rfl, rfl, ⟨⟨x0, x1, y0, y1⟩⟩, ⟨rfl⟩, ⟨Nat.le_refl _⟩, ⟨by repeat (first | exact HB.out | apply pw_below_drewN)⟩⟩
            case round =>
              obtain ⟨x2, y2, rfl, rfl, HB2, HG2, HM2, HBw⟩ := hrel
              obtain ⟨q0, q1, q2, q3⟩ := HB2.out
              by_cases hy2 : y2 = 0
              · have t3 : (!(y2 == 0)) = false := by rw [hy2]; rfl
                have t4 : (y2 != 0) = false := by rw [hy2]; rfl
                have hxg : x2 = gg := by
                  rw [hge.out, ← HG2.out, hy2, Int.gcd_zero_right]
                  omega
                subst hxg
                subst hy2
                go_wp2_with (first | (go_at_call 103; refine (big_of.calls k x2 r _ HO.out).mono ?_; rintro e w1 ⟨v, rfl, hv, hb⟩; obtain ⟨Ar, cr, rfl, hr⟩ := WA.of_R hv; clear hv; replace hr := Aside0.mk hr; replace hb := Aside0.mk hb))
                first | go_end0 | ((try simp only [Exit.inBlock, Exit.then]); go_ret)
                exact ⟨Ar, cr, rfl, hr.out, below_step HBw.out hb.out⟩
              · have t3 : (!(y2 == 0)) = true := by simp [hy2]
                have t4 : (y2 != 0) = true := by simp [hy2]
                have t5 : (y2 == 0) = false := by simp [hy2]
                have e2 : x2.tmod y2 = x2 % y2 := Int.tmod_eq_emod_of_nonneg q0
                have z1 : 0 ≤ x2 % y2 := Int.emod_nonneg _ hy2
                have z2 : x2 % y2 < y2 := Int.emod_lt_of_pos _ (by omega)
                have e3 : IntKind.u64.wrap (x2.tmod y2) = x2 % y2 := by
                  rw [e2]
                  exact IntWalk.u64_in _ ⟨by omega, by omega⟩
                have ng : Int.gcd y2 (x2 % y2) = Int.gcd x2 y2 := gcd_step x2 y2 q0 q2
                replace ng := Aside0.mk ng
                go_wp2
                go_quiet (fail)
                go_wp2
                cases gk with
                | zero => exact absurd HM2.out (by omega)
                | succ k2 =>
                go_roundg k2
                case measure => omega
                case rel => exact ⟨y2, x2 % y2, rfl, rfl, ⟨⟨by omega, by omega, by omega, by omega⟩⟩, ⟨ng.out.trans HG2.out⟩, ⟨by have := HM2.out; omega⟩, ⟨by repeat (first | exact HBw.out | apply pw_below_drewN | apply below_drew1)⟩⟩
          · rw [if_neg hby] at H
            replace hby : b_y = false := by simpa using hby
            subst hby
            obtain ⟨q, r', hdiv, hrec⟩ := step.out H
            have HD := Aside0.mk (hD Aa Ab ca cb a b q r')
            replace hdiv := Aside0.mk hdiv
            replace hrec := Aside0.mk hrec
            clear H step
            go_wp2_with (first | (go_at_call 110; (with_reducible refine (big_words_small.calls Aa ca a x true _ ?q1 HWac.out HX.out).mono ?_); (case q1 => exact by repeat (first | exact HWar.out | refine Kd.C_drewN ?_ _)); rintro e w1 ⟨rfl, ⟨nd1, rfl⟩⟩) | (go_at_call 110; (with_reducible refine (big_words_small.calls Ab cb b y false _ ?q1 HWbc.out HY.out).mono ?_); (case q1 => exact by repeat (first | exact HWbr.out | refine Kd.C_drewN ?_ _)); rintro e w1 ⟨rfl, ⟨nd2, rfl⟩⟩) | (go_at_call 132; (with_reducible refine (HD.out _ ?q1 ?q2 hdiv.out).mono ?_); (case q1 => exact HWa.out.drewN _); (case q2 => exact HWb.out.drewN _); rintro e w1 ⟨Aq, cq, Ar, cr, rfl, hq, hr, hb⟩; replace hb : Below wr.heap.size wr w1 := ⟨hb.os, hb.tape, hb.output, hb.size, hb.block⟩; replace hb := Aside0.mk hb; replace hr := Aside0.mk hr; clear hq))
            go_roundg k1
            case measure => have := HK.out; omega
            case rel => exact ⟨b, r', Ab, Ar, cb, cr, rfl, rfl, hrec, ⟨HWb.out.below hb.out⟩, hr, ⟨below_step HB.out hb.out⟩, ⟨by have := HK.out; omega⟩⟩
        · rw [if_neg hbx] at H
          replace hbx : bx = false := by simpa using hbx
          subst hbx
          obtain ⟨q, r', hdiv, hrec⟩ := step.out H
          have HD := Aside0.mk (hD Aa Ab ca cb a b q r')
          replace hdiv := Aside0.mk hdiv
          replace hrec := Aside0.mk hrec
          clear H step
          go_wp2_with (first | (go_at_call 110; (with_reducible refine (big_words_small.calls Aa ca a x false _ ?q1 HWac.out HX.out).mono ?_); (case q1 => exact by repeat (first | exact HWar.out | refine Kd.C_drewN ?_ _)); rintro e w1 ⟨rfl, ⟨nd1, rfl⟩⟩) | (go_at_call 132; (with_reducible refine (HD.out _ ?q1 ?q2 hdiv.out).mono ?_); (case q1 => exact HWa.out.drewN _); (case q2 => exact HWb.out.drewN _); rintro e w1 ⟨Aq, cq, Ar, cr, rfl, hq, hr, hb⟩; replace hb : Below wr.heap.size wr w1 := ⟨hb.os, hb.tape, hb.output, hb.size, hb.block⟩; replace hb := Aside0.mk hb; replace hr := Aside0.mk hr; clear hq))
          go_roundg k1
          case measure => have := HK.out; omega
          case rel => exact ⟨b, r', Ab, Ar, cb, cr, rfl, rfl, hrec, ⟨HWb.out.below hb.out⟩, hr, ⟨below_step HB.out hb.out⟩, ⟨by have := HK.out; omega⟩⟩

end Go.Proofs.YtbanemecfobonaaDoor.B
