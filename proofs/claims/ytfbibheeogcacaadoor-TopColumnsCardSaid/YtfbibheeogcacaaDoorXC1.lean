/- find.of by hand: its closure, the library's functions that call it, and the design. -/
import Derived.Test.YtfbibheeogcacaaDoorBF
import Derived.Test.YtfbibheeogcacaaDoorBD
namespace Go.Proofs.YtfbibheeogcacaaDoor.B
open Go.RowKit Go.Proofs.YtfbibheeogcacaaDoorW.PrintWords Go.Proofs.YtfbibheeogcacaaDoorW.PrintLast Go.Proofs.YtfbibheeogcacaaDoorW.PrintMore
set_option linter.unusedVariables false
set_option linter.unusedSimpArgs false

theorem keepc {w w' : World} {a : Addr} {x : Value} (hb : Below w.heap.size w w') (h : w.cell? a = some x) : w'.cell? a = some x := (hb.cell (World.block_lt_of_cell? w _ h)).trans h
theorem below_drawn0 {w w' : World} (h : Drawn0 w w') : Below w.heap.size w w' := by
  obtain ⟨nd, rfl⟩ := h
  exact pw_below_drewN (Below.refl _ _) nd
/-- Strictly rising, from 0 to less than n. -/
def risB (l : List Int) (n : Int) : Nat → Bool
  | 0 => true
  | i + 1 => risB l n i && (decide (0 ≤ rd l (i : Int)) && decide (rd l (i : Int) < n) && (i == 0 || decide (rd l ((i : Int) - 1) < rd l (i : Int))))
/-- The first place at which a test says yes, from i on. -/
def idxB (c : Nat → Bool) : Nat → Nat → Int
  | 0, _ => -1
  | n + 1, i => if c i = true then (i : Int) else idxB c n (i + 1)
theorem idxB_spec (c : Nat → Bool) : ∀ n i, (idxB c n i = -1 ∧ ∀ t, i ≤ t → t < i + n → c t = false) ∨ ∃ t : Nat, idxB c n i = (t : Int) ∧ i ≤ t ∧ t < i + n ∧ c t = true
  | 0, i => .inl ⟨rfl, fun t h1 h2 => by omega⟩
  | n + 1, i => by
    simp only [idxB]
    by_cases h : c i = true
    · rw [if_pos h]; exact .inr ⟨i, rfl, Nat.le_refl _, by omega, h⟩
    · rw [if_neg h]
      have h' : c i = false := by simpa using h
      rcases idxB_spec c n (i + 1) with ⟨h1, h2⟩ | ⟨t, h1, h2, h3, h4⟩
      · refine .inl ⟨h1, fun t h3 h4 => ?_⟩
        by_cases e : t = i
        · subst e; exact h'
        · exact h2 t (by omega) (by omega)
      · exact .inr ⟨t, h1, by omega, by omega, h4⟩
theorem w64s (x : Int) (h1 : -9223372036854775808 ≤ x) (h2 : x ≤ 9223372036854775807) : wrap64 x = x := by simp only [wrap64]; omega
theorem nNx (i : Nat) (h : i ≤ 9223372036854775806) : wrap64 ((i : Int) + 1) = ((i + 1 : Nat) : Int) := by rw [w64s _ (by omega) (by omega)]; omega
theorem risB_false (l : List Int) (n : Int) (j : Nat) (h : risB l n j = false) : ∀ d, risB l n (j + d) = false
  | 0 => h
  | d + 1 => by
    have ih := risB_false l n j h d
    show (risB l n (j + d) && _) = false
    rw [ih]; rfl
theorem risB_to (l : List Int) (n : Int) (j m : Nat) (hjm : j ≤ m) (h : risB l n j = false) : risB l n m = false := by
  have := risB_false l n j h (m - j)
  rwa [show j + (m - j) = m by omega] at this
theorem rising_l0 (l : List Int) (n : Int) (hl : l.length ≤ 9223372036854775807) : ∀ m i : Nat, l.length - i = m → i ≤ l.length → risB l n i = true → ∀ k, m < k → find_rising.l0 k l n l (l.length : Int) (i : Int) = some (risB l n l.length)
  | m, i, hm, hi, hr, 0, hk => by omega
  | 0, i, hm, hi, hr, k + 1, hk => by
    obtain rfl : i = l.length := by omega
    rw [find_rising.l0, if_neg (by omega), hr]
  | m + 1, i, hm, hi, hr, k + 1, hk => by
    have hlt : i < l.length := by omega
    have e : risB l n (i + 1) = (decide (0 ≤ rd l (i : Int)) && decide (rd l (i : Int) < n) && (i == 0 || decide (rd l ((i : Int) - 1) < rd l (i : Int)))) := by
      show (risB l n i && _) = _
      rw [hr, Bool.true_and]
    rw [find_rising.l0, if_pos (by omega), if_pos (by omega), if_pos (by omega), nNx i (by omega)]
    by_cases c1 : rd l (i : Int) < 0
    · rw [if_pos c1, risB_to l n (i + 1) l.length (by omega) (by rw [e, decide_eq_false (show ¬ 0 ≤ rd l (i : Int) by omega)]; rfl)]
    rw [if_neg c1]
    have d1 : decide (0 ≤ rd l (i : Int)) = true := decide_eq_true (by omega)
    by_cases c2 : rd l (i : Int) ≥ n
    · rw [if_pos c2, risB_to l n (i + 1) l.length (by omega) (by rw [e, d1, decide_eq_false (show ¬ rd l (i : Int) < n by omega)]; rfl)]
    rw [if_neg c2]
    have d2 : decide (rd l (i : Int) < n) = true := decide_eq_true (by omega)
    by_cases c3 : (i : Int) > 0
    · have d3 : (i == 0) = false := by simpa using (show i ≠ 0 by omega)
      have ew : wrap64 ((i : Int) - 1) = (i : Int) - 1 := w64s _ (by omega) (by omega)
      rw [if_pos c3, ew, if_pos (by omega), if_pos (by omega)]
      by_cases c4 : rd l (i : Int) ≤ rd l ((i : Int) - 1)
      · rw [if_pos c4, risB_to l n (i + 1) l.length (by omega) (by rw [e, d1, d2, d3, decide_eq_false (show ¬ rd l ((i : Int) - 1) < rd l (i : Int) by omega)]; rfl)]
      · rw [if_neg c4]
        exact rising_l0 l n hl m (i + 1) (by omega) (by omega) (by rw [e, d1, d2, d3, decide_eq_true (show rd l ((i : Int) - 1) < rd l (i : Int) by omega)]; rfl) k (by omega)
    · have d3 : (i == 0) = true := by simpa using (show i = 0 by omega)
      rw [if_neg c3]
      exact rising_l0 l n hl m (i + 1) (by omega) (by omega) (by rw [e, d1, d2, d3]; rfl) k (by omega)
theorem rising_ev (l : List Int) (n : Int) (hl : l.length ≤ 9223372036854775807) : find_rising.f (l.length + 1) l n = some (risB l n l.length) :=
  rising_l0 l n hl l.length 0 (by omega) (by omega) rfl (l.length + 1) (by omega)

set_option maxHeartbeats 400000 in
set_option maxRecDepth 100000 in
theorem f24_any (A : Option Addr) (c : Nat) (l : List Int) (n : Int) (gn : Nat) (w : World) (hg : w.cell? ⟨gn, 0, none⟩ = some (.int .i64 n)) (hr : Kd.C (Kd.int .i64) w A l.length l) (hc : l.length ≤ c) :
    Calls Tryd.prog 24 #[.slice A l.length c, .pointer (some ⟨gn, 0, none⟩)] w fun e w' => e = .returned (.bool (!risB l n l.length)) ∧ Drawn0 w w' := by
  have hl : l.length ≤ 9223372036854775807 := by have := hr.2.1; omega
  have HC : Aside0 (Calls Tryd.prog 25 #[.slice A l.length c, .int .i64 n] w fun e w' => e = .returned (.bool (risB l n l.length)) ∧ Drawn0 w w') := ⟨find_rising.calls (l.length + 1) A c l n _ w hr hc (rising_ev l n hl)⟩
  generalize risB l n l.length = b at HC ⊢
  clear hr hc hl
  go_enter Tryd.func24, Tryd.ntmps24
  go_wp2_with (first | (go_at_call 25; refine HC.out.mono ?_; rintro e w1 ⟨rfl, ⟨nd, rfl⟩⟩))
  go_ret
  exact ⟨rfl, ⟨nd, rfl⟩⟩
set_option maxHeartbeats 800000 in
set_option maxRecDepth 100000 in
/-- IndexFunc over rows of numbers, for of's closure. -/
theorem IndexFunc_rows.calls (A0 : Option Addr) (c0 : Nat) (l : List (List Int)) (n : Int) (gn : Nat) (w : World) (hr : Kd.C (Kd.slice 3 (Kd.int .i64)) w A0 l.length l) (hg : w.cell? ⟨gn, 0, none⟩ = some (.int .i64 n)) :
    Calls Tryd.prog 38 #[.slice A0 l.length c0, .func (.func 24) #[] #[.pointer (some ⟨gn, 0, none⟩)]] w fun e w' => e = .returned (.int .i64 (idxB (fun i => !risB (rd_L1 l (i : Int)) n (rd_L1 l (i : Int)).length) l.length 0)) ∧ Below w.heap.size w w' := by
  have HR := Aside0.mk hr
  have HG := Aside0.mk hg
  have HB0 := Aside0.mk (Below.refl w.heap.size w)
  have hlen : (l.length : Int) ≤ 9223372036854775807 := by have := hr.2.1; omega
  generalize hcc : (fun i : Nat => !risB (rd_L1 l (i : Int)) n (rd_L1 l (i : Int)).length) = c
  have HCC : Aside0 (∀ i, c i = !risB (rd_L1 l (i : Int)) n (rd_L1 l (i : Int)).length) := ⟨fun i => by rw [← hcc]⟩
  clear hr hg hcc
  go_enter Tryd.func38, Tryd.ntmps38
  go_wp2
  go_loopg [8] l.length (fun gk v8 w' => ∃ i : Nat, v8 = .int .i64 (i : Int) ∧ i ≤ l.length ∧ Aside0 (gk = l.length - i) ∧ Aside0 (idxB c l.length 0 = idxB c (l.length - i) i) ∧ Aside0 (Below w.heap.size w w'))
  case atStart => exact ⟨0, rfl, by omega, ⟨rfl⟩, ⟨rfl⟩, HB0⟩
  case round =>
    clear HB0
    obtain ⟨i, rfl, hi, HK, HI, HB⟩ := hrel
    by_cases hlt : i < l.length
    · obtain ⟨ad, A, ca, e0, hx0, hca, hra⟩ := at_L1 HR.out (i : Int) (by omega) (by omega)
      cases e0
      have hx0 := keepc HB.out hx0
      rw [Int.toNat_natCast] at hx0
      have HN : Aside0 (idxB c (l.length - i) i = if c i = true then (i : Int) else idxB c (l.length - (i + 1)) (i + 1)) := ⟨by rw [show l.length - i = (l.length - (i + 1)) + 1 by omega]; rfl⟩
      have HC := Aside0.mk (f24_any A ca (rd_L1 l (i : Int)) n gn wr (keepc HB.out HG.out) (Kd.C_below hra HB.out) hca)
      rw [← HCC.out i] at HC
      clear hra hca
      generalize (rd_L1 l (i : Int)).length = m at HC hx0
      obtain ⟨bb, hbb⟩ : ∃ bb, c i = bb := ⟨_, rfl⟩
      rw [hbb] at HC HN
      clear hbb
      cases bb
      · go_wp2_with (first | (go_at_call 24; refine HC.out.mono ?_; rintro e w1 ⟨rfl, ⟨nd, rfl⟩⟩))
        go_roundg (l.length - (i + 1))
        case measure => have := HK.out; omega
        case rel => exact ⟨i + 1, by go_num, by omega, ⟨rfl⟩, ⟨by rw [HI.out, HN.out, if_neg (by simp)]⟩, ⟨pw_below_drewN HB.out nd⟩⟩
      · go_wp2_with (first | (go_at_call 24; refine HC.out.mono ?_; rintro e w1 ⟨rfl, ⟨nd, rfl⟩⟩))
        go_ret
        exact ⟨by rw [HI.out, HN.out, if_pos trivial]; rfl, pw_below_drewN HB.out nd⟩
    · obtain rfl : i = l.length := by omega
      go_wp2
      go_ret
      exact ⟨by rw [HI.out, Nat.sub_self]; rfl, HB.out⟩
/-- Where a row of a design is that is not rising. -/
def badI (n : Int) (l : List (List Int)) : Int := idxB (fun i => !risB (rd_L1 l (i : Int)) n (rd_L1 l (i : Int)).length) l.length 0
set_option maxHeartbeats 400000 in
set_option maxRecDepth 100000 in
theorem ContainsFunc_rows.calls (A0 : Option Addr) (c0 : Nat) (l : List (List Int)) (n : Int) (gn : Nat) (w : World) (hr : Kd.C (Kd.slice 3 (Kd.int .i64)) w A0 l.length l) (hg : w.cell? ⟨gn, 0, none⟩ = some (.int .i64 n)) :
    Calls Tryd.prog 23 #[.slice A0 l.length c0, .func (.func 24) #[] #[.pointer (some ⟨gn, 0, none⟩)]] w fun e w' => e = .returned (.bool (decide (0 ≤ badI n l))) ∧ Below w.heap.size w w' := by
  have HC := Aside0.mk (IndexFunc_rows.calls A0 c0 l n gn w hr hg)
  rw [← badI] at HC
  generalize badI n l = b at HC ⊢
  clear hr hg
  go_enter Tryd.func23, Tryd.ntmps23
  go_wp2_with (first | (go_at_call 38; refine HC.out.mono ?_; rintro e w1 ⟨rfl, b1⟩; replace b1 := Aside0.mk b1))
  go_ret
  exact ⟨rfl, b1.out⟩
/-- of's error. -/
def ofE (n : Int) (l : List (List Int)) : Int := if n < 1 ∨ 49 < n then 2 else if 60 < (l.length : Int) then 3 else if 0 ≤ badI n l then 2 else 0
set_option maxHeartbeats 800000 in
set_option maxRecDepth 100000 in
theorem find_of_bad (n : Int) (A : Option Addr) (c : Nat) (l : List (List Int)) (w : World) (hr : Kd.C (Kd.slice 3 (Kd.int .i64)) w A l.length l) (he : ofE n l ≠ 0) :
    Calls Tryd.prog 9 #[.int .i64 n, .slice A l.length c] w fun e w' => e = .returned (.tuple #[.pointer none, .int .i64 (ofE n l)]) ∧ Below w.heap.size w w' := by
  by_cases c1 : n < 1
  · have e : ofE n l = 2 := by unfold ofE; rw [if_pos (.inl c1)]
    rw [e]
    have t1 := decide_eq_true c1
    clear he e hr c1
    go_enter Tryd.func9, Tryd.ntmps9
    go_wp2
    go_ret2
    exact ⟨rfl, by repeat (first | exact Below.refl _ _ | apply below_alloc | apply pw_below_drewN | apply below_drew1)⟩
  have t1 : decide (n < 1) = false := decide_eq_false c1
  by_cases c2 : 49 < n
  · have e : ofE n l = 2 := by unfold ofE; rw [if_pos (.inr c2)]
    rw [e]
    have t2 := decide_eq_true c2
    clear he e hr
    go_enter Tryd.func9, Tryd.ntmps9
    go_wp2
    go_ret2
    exact ⟨rfl, by repeat (first | exact Below.refl _ _ | apply below_alloc | apply pw_below_drewN | apply below_drew1)⟩
  have t2 : decide (49 < n) = false := decide_eq_false c2
  have e0 : ofE n l = if 60 < (l.length : Int) then 3 else if 0 ≤ badI n l then 2 else 0 := by unfold ofE; rw [if_neg (by omega)]
  rw [e0] at he ⊢
  by_cases c3 : 60 < (l.length : Int)
  · rw [if_pos c3]
    have t3 := decide_eq_true c3
    clear he e0 hr
    go_enter Tryd.func9, Tryd.ntmps9
    go_wp2
    go_ret2
    exact ⟨rfl, by repeat (first | exact Below.refl _ _ | apply below_alloc | apply pw_below_drewN | apply below_drew1)⟩
  rw [if_neg c3] at he ⊢
  have t3 : decide (60 < (l.length : Int)) = false := decide_eq_false c3
  by_cases c4 : 0 ≤ badI n l
  · rw [if_pos c4]
    have t4 := decide_eq_true c4
    have HC : Aside0 (∀ W, Below w.heap.size w W → W.cell? ⟨w.heap.size, 0, none⟩ = some (.int .i64 n) → Calls Tryd.prog 23 #[.slice A l.length c, .func (.func 24) #[] #[.pointer (some ⟨w.heap.size, 0, none⟩)]] W fun e w' => e = .returned (.bool true) ∧ Below W.heap.size W w') := ⟨fun W hb hc => t4 ▸ ContainsFunc_rows.calls A c l n w.heap.size W (Kd.C_below hr hb) hc⟩
    clear he e0 hr c4 t4
    go_enter Tryd.func9, Tryd.ntmps9
    go_wp2_with (first | (go_at_call 23; refine (HC.out _ (by repeat (first | exact Below.refl _ _ | apply below_alloc | apply pw_below_drewN | apply below_drew1)) (by first | assumption | go_simp | simp)).mono ?_; rintro e w1 ⟨rfl, b1⟩; replace b1 := Aside0.mk b1))
    go_ret2
    exact ⟨rfl, below_step (by repeat (first | exact Below.refl _ _ | apply below_alloc | apply pw_below_drewN | apply below_drew1)) b1.out⟩
  · rw [if_neg c4] at he
    exact absurd rfl he
set_option maxHeartbeats 800000 in
set_option maxRecDepth 100000 in
theorem find_of_ok (n : Int) (A : Option Addr) (c : Nat) (l : List (List Int)) (w : World) (hr : Kd.C (Kd.slice 3 (Kd.int .i64)) w A l.length l) (he : ofE n l = 0) :
    Calls Tryd.prog 9 #[.int .i64 n, .slice A l.length c] w fun e w' => ∃ g : Nat, e = .returned (.tuple #[.pointer (some ⟨g, 0, none⟩), .int .i64 0]) ∧ IsS58 w w' g n l ∧ Below w.heap.size w w' := by
  unfold ofE at he
  by_cases c1 : n < 1 ∨ 49 < n
  · rw [if_pos c1] at he; exact absurd he (by decide)
  rw [if_neg c1] at he
  by_cases c3 : 60 < (l.length : Int)
  · rw [if_pos c3] at he; exact absurd he (by decide)
  rw [if_neg c3] at he
  by_cases c4 : 0 ≤ badI n l
  · rw [if_pos c4] at he; exact absurd he (by decide)
  have t1 : decide (n < 1) = false := decide_eq_false (by omega)
  have t2 : decide (49 < n) = false := decide_eq_false (by omega)
  have t3 : decide (60 < (l.length : Int)) = false := decide_eq_false c3
  have t4 : decide (0 ≤ badI n l) = false := decide_eq_false c4
  have HC : Aside0 (∀ W, Below w.heap.size w W → W.cell? ⟨w.heap.size, 0, none⟩ = some (.int .i64 n) → Calls Tryd.prog 23 #[.slice A l.length c, .func (.func 24) #[] #[.pointer (some ⟨w.heap.size, 0, none⟩)]] W fun e w' => e = .returned (.bool false) ∧ Below W.heap.size W w') := ⟨fun W hb hc => t4 ▸ ContainsFunc_rows.calls A c l n w.heap.size W (Kd.C_below hr hb) hc⟩
  have HR := Aside0.mk hr
  clear he hr c4 t4 c1
  go_enter Tryd.func9, Tryd.ntmps9
  go_upto_region 5 with (fail)
  go_wp2_with (first | (go_at_call 23; refine (HC.out _ (by repeat (first | exact Below.refl _ _ | apply below_alloc | apply pw_below_drewN | apply below_drew1)) (by first | assumption | go_simp | simp)).mono ?_; rintro e w1 ⟨rfl, b1⟩; have hn1 : w1.cell? ⟨w.heap.size, 0, none⟩ = some (.int .i64 n) := keepc b1 (by first | assumption | go_simp | simp); have B1 := Aside0.mk (below_step (below_alloc (Below.refl w.heap.size w) (.cells #[.int .i64 n] 3)) b1); clear b1))
  go_ret2
  exact ⟨_, rfl, ⟨A, c, blk_new _ _, B1.out.size, HR.out⟩, below_alloc B1.out _⟩
end Go.Proofs.YtfbibheeogcacaaDoor.B
