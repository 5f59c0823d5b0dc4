/- Written by a program (lite.py, squash.py) from my texts. -/
import Derived.Test.YtbanemecfobonaaDoorGXw
import Derived.Test.YtbanemecfobonaaDoorX5w
import Derived.Laws.EntriesVeiled
section
namespace Go.Proofs.YtbanemecfobonaaDoor.B
open Go.RowKit Go.Proofs.YtbanemecfobonaaDoorW.PrintWords Go.Proofs.YtbanemecfobonaaDoorW.PrintLast Go.Proofs.YtbanemecfobonaaDoorW.PrintMore
set_option linter.unusedVariables false
set_option linter.unusedSimpArgs false
def partOf (k : Nat) (x : S55) : Option (List Int × List Int) :=
  (bus_bits.f x.f0 x.f1 x.f2 x.f3).bind fun b => if 0 ≤ b ∧ b < 9223372036854775808 ∧ 0 ≤ x.f2 ∧ x.f2 < 9223372036854775808 then (big_of.f k b).bind fun n => (big_of.f k x.f2).bind fun d => ratSet (divG k) k k n d else none
def shareTo (k : Nat) (l : List S55) : Nat → Option (List Int × List Int)
  | 0 => some ([], [])
  | i + 1 => (shareTo k l i).bind fun s => (partOf k (rd_T55 l (i : Int))).bind fun f => ratAdd (divG k) k k s.1 s.2 f.1 f.2
def bus_share.f (k : Nat) (l : List S55) : Option (List Int × List Int) := shareTo k l l.length
theorem shareTo_some (k : Nat) (l : List S55) (n : Nat) (r : List Int × List Int) (h : shareTo k l n = some r) : ∀ i, i ≤ n → ∃ s, shareTo k l i = some s := by
  induction n generalizing r with
  | zero => intro i hi
            obtain rfl : i = 0 := by omega
            exact ⟨r, h⟩
  | succ n ih =>
    intro i hi
    by_cases e : i = n + 1
    · subst e; exact ⟨r, h⟩
    · obtain ⟨s, hs, _⟩ := oB h
      exact ih s hs i z3
theorem big_Rat_Add.self (Div : List Int → List Int → Option (List Int × List Int)) (hD : DivOk Div) (k n g gy : Nat) (lx dx ly dy r1 r2 : List Int) (w : World) (hx : RatB w g lx dx) (hy : RatB w gy ly dy) (h : ratAdd Div k n lx dx ly dy = some (r1, r2)) :
    Calls Tryd.prog 102 #[.pointer (some ⟨g, 0, none⟩), .pointer (some ⟨g, 0, none⟩), .pointer (some ⟨gy, 0, none⟩)] w fun e w' => e = .returned (.pointer (some ⟨g, 0, none⟩)) ∧ Only w w' g ∧ RatB w' g r1 r2 := by
  have hx' := hx
  obtain ⟨A, c, A', c', h1, h2, h3⟩ := hx
  exact big_Rat_Add.calls Div hD k n g g gy _ _ _ lx dx ly dy r1 r2 w h1 hx' hy h
set_option maxHeartbeats 2000000 in
set_option maxRecDepth 100000 in
theorem bus_share.calls (k : Nat) (A0 : Option Addr) (c0 : Nat) (l : List S55) (r1 r2 : List Int) (w : World) (hr0 : Kd.C k55 w A0 l.length l) (hc0 : l.length ≤ c0) (h : bus_share.f k l = some (r1, r2)) :
    Calls Tryd.prog 69 #[.slice A0 l.length c0] w fun e w' => ∃ g', e = .returned (.pointer (some ⟨g', 0, none⟩)) ∧ w.heap.size ≤ g' ∧ Below w.heap.size w w' ∧ RatB w' g' r1 r2 := by
  (have HALL := aM (shareTo_some k l l.length _ h)); have HEND := aM h; have HR0 := aM hr0; (have hlen : (l.length : Int) ≤ 9223372036854775807 := by have := HR0.out.2.1; omega); (have R00 : Aside0 (RatB (w.alloc (.cells #[.bool false, .slice none 0 0, .slice none 0 0] 123)) w.heap.size [] []) := ⟨(Z3.new w).rat⟩); (have B00 : Aside0 (Below w.heap.size w (w.alloc (.cells #[.bool false, .slice none 0 0, .slice none 0 0] 123))) := ⟨below_alloc (Below.refl _ _) _⟩); clear hr0 hc0 h; have hu55 := Tryd.underlying55; (go_enter Tryd.func69, Tryd.ntmps69); go_wp2; (go_loopg [9] l.length (fun gk v9 w' => ∃ i : Nat, v9 = .int .i64 (i : Int) ∧ i ≤ l.length ∧ Aside0 (gk = l.length - i) ∧ Aside0 (∃ s1 s2, shareTo k l i = some (s1, s2) ∧ RatB w' w.heap.size s1 s2) ∧ Aside0 (Below w.heap.size w w'))); (case atStart => exact ⟨0, rfl, by omega, ⟨rfl⟩, ⟨[], [], rfl, R00.out⟩, B00⟩)
  case round =>
   clear R00 B00; obtain ⟨i, rfl, hi, HK, HS, HB⟩ := hrel; by_cases hlt : i < l.length; rotate_left
   · (obtain rfl : i = l.length := by omega); obtain ⟨a1, a2, hs, hrat⟩ := HS.out; (have he : (r1, r2) = (a1, a2) := sI (HEND.out.symm.trans hs)); (obtain ⟨rfl, rfl⟩ := Prod.mk.inj he); have RAT := aM hrat; clear hs hrat HS he; go_wp2; go_ret; (exact ⟨_, rfl, Nat.le_refl _, HB.out, RAT.out⟩)
   obtain ⟨a1, a2, hs, hrat⟩ := HS.out; (obtain ⟨⟨t1, t2⟩, hs2⟩ := HALL.out (i + 1) z3); have HNEXT := aM hs2; rw [shareTo, hs, Option.bind_some] at hs2; (obtain ⟨⟨p1, p2⟩, hf, hs2⟩ := oB hs2); (dsimp only at hs2); (obtain ⟨ad, e0, hx0, hx1, hx2, hx3⟩ := at_T55 HR0.out (i : Int) z3 z3); cases e0; (replace hx0 := kpc HB.out hx0); (replace hx1 := kpc HB.out hx1); (replace hx2 := kpc HB.out hx2); (replace hx3 := kpc HB.out hx3); simp only [Int.toNat_natCast] at hx0 hx1 hx2 hx3; (generalize rd_T55 l (i : Int) = x at hf hx0 hx1 hx2 hx3); (unfold partOf at hf); (obtain ⟨b, hb, hf⟩ := oB hf); (split at hf); (case isFalse => cases hf); (rename_i hcond); obtain ⟨q0, q1, q2, q3⟩ := hcond; (obtain ⟨nn, hn, hf⟩ := oB hf); (obtain ⟨dd, hd, hf⟩ := oB hf); have EB := aM hb; have EN := aM hn; have ED := aM hd; have EF := aM hf; have EA := aM hs2; (have EQ := aM (⟨q0, q1, q2, q3⟩ : _ ∧ _ ∧ _ ∧ _)); have RAT := aM hrat; clear hb hn hd hf hs2 hs hrat HS q0 q1 q2 q3; (go_upto_region 5 with (fail)); (have B0 : Below w.heap.size w (wr.alloc (.cells #[.int .i64 x.f0, .int .i64 x.f1, .int .i64 x.f2, .int .i64 x.f3] 55)) := below_alloc HB.out _); (have R0 : RatB (wr.alloc (.cells #[.int .i64 x.f0, .int .i64 x.f1, .int .i64 x.f2, .int .i64 x.f3] 55)) w.heap.size a1 a2 := RAT.out.below (below_alloc (Below.refl _ _) _))
   (have M0 : (wr.alloc (.cells #[.int .i64 x.f0, .int .i64 x.f1, .int .i64 x.f2, .int .i64 x.f3] 55)).heap[wr.heap.size]? = some (.cells #[.int .i64 x.f0, .int .i64 x.f1, .int .i64 x.f2, .int .i64 x.f3] 55 (0, 0)) := blk_new _ _); (have HLW : Aside0 (w.heap.size < (wr.alloc (.cells #[.int .i64 x.f0, .int .i64 x.f1, .int .i64 x.f2, .int .i64 x.f3] 55)).heap.size) := ⟨by have := HB.out.size; rw [World.size_alloc]; omega⟩); (have HNE : Aside0 (wr.heap.size ≠ w.heap.size) := ⟨by obtain ⟨_, _, _, _, h1, _⟩ := RAT.out; have := blk_lt h1; omega⟩); clear hx0 hx1 hx2 hx3 RAT HB; (generalize wr.alloc (.cells #[.int .i64 x.f0, .int .i64 x.f1, .int .i64 x.f2, .int .i64 x.f3] 55) = W at B0 R0 M0 HLW ⊢); (generalize wr.heap.size = m at M0 HNE ⊢); (have hc0 : W.cell? ⟨m, 0, none⟩ = some (.int .i64 x.f0) := (blk_cell M0 0).trans rfl); (have hc1 : W.cell? ⟨m, 1, none⟩ = some (.int .i64 x.f1) := (blk_cell M0 1).trans rfl); (have hc2 : W.cell? ⟨m, 2, none⟩ = some (.int .i64 x.f2) := (blk_cell M0 2).trans rfl); (have hc3 : W.cell? ⟨m, 3, none⟩ = some (.int .i64 x.f3) := (blk_cell M0 3).trans rfl); (have HS0 : Aside0 (∀ W1, Below W.heap.size W W1 → (fun w1 => w1.cell? ⟨m, 0, none⟩ = some (.int .i64 x.f0) ∧ w1.cell? ⟨m, 1, none⟩ = some (.int .i64 x.f1) ∧ w1.cell? ⟨m, 2, none⟩ = some (.int .i64 x.f2) ∧ w1.cell? ⟨m, 3, none⟩ = some (.int .i64 x.f3)) W1) := ⟨fun W1 hb => ⟨(blk_cell (blk_below M0 hb) 0).trans rfl, (blk_cell (blk_below M0 hb) 1).trans rfl, (blk_cell (blk_below M0 hb) 2).trans rfl, (blk_cell (blk_below M0 hb) 3).trans rfl⟩⟩)
   (have HS2 : Aside0 (∀ W1 W2, Below W.heap.size W W1 → KeepBut W1 W2 w.heap.size none → (fun w1 => w1.cell? ⟨m, 0, none⟩ = some (.int .i64 x.f0) ∧ w1.cell? ⟨m, 1, none⟩ = some (.int .i64 x.f1) ∧ w1.cell? ⟨m, 2, none⟩ = some (.int .i64 x.f2) ∧ w1.cell? ⟨m, 3, none⟩ = some (.int .i64 x.f3)) W2) := ⟨fun W1 W2 hb hk => ⟨keep_cell hk ((blk_cell (blk_below M0 hb) 0).trans rfl) HNE.out, keep_cell hk ((blk_cell (blk_below M0 hb) 1).trans rfl) HNE.out, keep_cell hk ((blk_cell (blk_below M0 hb) 2).trans rfl) HNE.out, keep_cell hk ((blk_cell (blk_below M0 hb) 3).trans rfl) HNE.out⟩⟩); (have HR : Aside0 (∀ W1, Below W.heap.size W W1 → RatB W1 w.heap.size a1 a2) := ⟨fun W1 hb => R0.below hb⟩); have HB0 := aM B0; clear M0 R0 B0
   go_region_held3 (fun w1 => w1.cell? ⟨m, 0, none⟩ = some (.int .i64 x.f0) ∧ w1.cell? ⟨m, 1, none⟩ = some (.int .i64 x.f1) ∧ w1.cell? ⟨m, 2, none⟩ = some (.int .i64 x.f2) ∧ w1.cell? ⟨m, 3, none⟩ = some (.int .i64 x.f3)) (first | exact ⟨hc0, hc1, hc2, hc3⟩ | exact HS2.out _ _ z12 hk.out.2 | exact HS0.out _ z12 | go_keep)
     (first
     | (go_at_call 87; refine (bus_bits.calls x.f0 x.f1 x.f2 x.f3 b _ EB.out).mono ?_; rintro e w1 ⟨rfl, b1⟩; have B1 : Aside0 (Below W.heap.size W w1) := ⟨below_step z12 b1⟩; replace b1 := aM b1)
     | (go_at_call_of 70 (Value.int .i64 b); refine (big_NewInt.calls2 k b nn W _ EQ.out.1 EN.out EQ.out.2.1 ?q1).mono ?_; (case q1 => repeat (first | exact Below.refl _ _ | exact B6.out | exact B5.out | exact B4.out | exact B3.out | exact B2.out | exact B1.out | apply below_alloc | apply pw_below_drewN | apply below_drew1)); rintro e w2 ⟨g2, rfl, s2, b2, B2, f2⟩; replace b2 := aM b2; replace B2 := aM B2; replace f2 := aM f2; clear s2)
     | (go_at_call_of 70 (Value.int .i64 x.f2); refine (big_NewInt.calls2 k x.f2 dd W _ EQ.out.2.2.1 ED.out EQ.out.2.2.2 ?q1).mono ?_; (case q1 => repeat (first | exact Below.refl _ _ | exact B6.out | exact B5.out | exact B4.out | exact B3.out | exact B2.out | exact B1.out | apply below_alloc | apply pw_below_drewN | apply below_drew1)); rintro e w3 ⟨g3, rfl, s3, b3, B3, f3⟩; replace b3 := aM b3; replace B3 := aM B3; replace f3 := aM f3; clear s3)
     | (go_at_call 96; refine (big_Rat_SetFrac.calls (divG k) (divG_ok k) k k _ g2 g3 (.bool false) (.slice none 0 0) (.slice none 0 0) nn dd p1 p2 _ ?q1 (FI.int (w := W) ?q2) (FI.int (w := W) ?q3) EF.out).mono ?_; (case q1 => (change Z3 _ _; repeat (first | exact Z3.new _ | exact Z3.new' rfl | with_reducible refine Z3.below ?_ b1.out | with_reducible refine Z3.below ?_ b2.out | with_reducible refine Z3.below ?_ b3.out | with_reducible refine Z3.drewN ?_ _ | with_reducible refine Z3.drew ?_ | with_reducible refine Z3.alloc ?_ _))); (case q2 => repeat (first | with_reducible exact f2.out | with_reducible exact f3.out | with_reducible refine FI.below ?_ b3.out | with_reducible refine FI.drewN ?_ _ | with_reducible refine FI.drew ?_ | with_reducible refine FI.alloc ?_ _)); (case q3 => repeat (first | with_reducible exact f2.out | with_reducible exact f3.out | with_reducible refine FI.below ?_ b3.out | with_reducible refine FI.drewN ?_ _ | with_reducible refine FI.drew ?_ | with_reducible refine FI.alloc ?_ _)); rintro e w4 ⟨rfl, o4, r4⟩; have B4 : Aside0 (Below W.heap.size W w4) := ⟨o4.below z12 (by (have z0_ : True := trivial; (try have y1_ := B1.out.size); (try have y2_ := B2.out.size); (try have y3_ := B3.out.size); (try have y4_ := b1.out.size); (try have y5_ := b2.out.size); (try have y6_ := b3.out.size); (try simp only [World.size_alloc, drew_size] at y1_); (try simp only [World.size_alloc, drew_size] at y2_); (try simp only [World.size_alloc, drew_size] at y3_); (try simp only [World.size_alloc, drew_size] at y4_); (try simp only [World.size_alloc, drew_size] at y5_); (try simp only [World.size_alloc, drew_size] at y6_); first | omega | (simp only [World.size_alloc, drew_size]; omega)))⟩; replace r4 := aM r4; clear o4)
     | (go_at_call 102; refine (big_Rat_Add.self (divG k) (divG_ok k) k k w.heap.size _ a1 a2 p1 p2 t1 t2 _ (HR.out _ ?q1) (by first | exact r4.out | exact r4.out.below (pw_below_drewN (Below.refl _ _) _)) EA.out).mono ?_; (case q1 => repeat (first | exact Below.refl _ _ | exact B6.out | exact B5.out | exact B4.out | exact B3.out | exact B2.out | exact B1.out | apply below_alloc | apply pw_below_drewN | apply below_drew1)); rintro e w5 ⟨rfl, hk, r5⟩; have B5 : Aside0 (Below w.heap.size w w5) := ⟨hk.below (below_step HB0.out z12) (Nat.le_refl _)⟩; replace hk := aM hk; replace r5 := aM r5))
   all_goals
     rename_i hHeld
     clear hHeld HS0 HS2 hc0 hc1 hc2 hc3
     go_wp2
     go_roundg (l.length - (i + 1))
     case measure => have := HK.out; omega
     case rel => exact ⟨i + 1, by go_num, by omega, ⟨rfl⟩, ⟨t1, t2, HNEXT.out, r5.out⟩, B5⟩
theorem bus_share.callsN (k : Nat) (A0 : Option Addr) (c0 n : Nat) (l : List S55) (r1 r2 : List Int) (w : World) (hr0 : Kd.C k55 w A0 l.length l) (hc0 : l.length ≤ c0) (hn : l.length = n) (h : bus_share.f k l = some (r1, r2)) :
    Calls Tryd.prog 69 #[.slice A0 n c0] w fun e w' => ∃ g', e = .returned (.pointer (some ⟨g', 0, none⟩)) ∧ w.heap.size ≤ g' ∧ Below w.heap.size w w' ∧ RatB w' g' r1 r2 := by
  subst hn
  exact bus_share.calls k A0 c0 l r1 r2 w hr0 hc0 h
end Go.Proofs.YtbanemecfobonaaDoor.B
end
section
namespace Go.Proofs.YtbanemecfobonaaDoor.B
open Go.RowKit Go.Proofs.YtbanemecfobonaaDoorW.PrintWords Go.Proofs.YtbanemecfobonaaDoorW.PrintLast Go.Proofs.YtbanemecfobonaaDoorW.PrintMore
set_option linter.unusedVariables false
set_option linter.unusedSimpArgs false
def bitsM (x : S55) : Int := 47 + 8 * x.f1 + (33 + 8 * x.f1) / 4
theorem okM_bounds {x : S55} (h : okM x = true) : 0 ≤ x.f0 ∧ x.f0 ≤ 2047 ∧ 0 ≤ x.f1 ∧ x.f1 ≤ 8 ∧ 1 ≤ x.f2 ∧ x.f2 ≤ 100000 ∧ 0 ≤ x.f3 ∧ x.f3 ≤ 100000 := by
  simpa only [okM, Bool.and_eq_true, decide_eq_true_eq, and_assoc] using h
theorem bitsM_bounds {x : S55} (h : okM x = true) : 55 ≤ bitsM x ∧ bitsM x ≤ 135 := by
  obtain ⟨_, _, h1, h2, _⟩ := okM_bounds h
  unfold bitsM; omega
theorem w64i (x : Int) (h1 : -9223372036854775808 ≤ x) (h2 : x ≤ 9223372036854775807) : wrap64 x = x := by simp only [wrap64]; omega
theorem bits_ok {x : S55} (h : okM x = true) : bus_bits.f x.f0 x.f1 x.f2 x.f3 = some (bitsM x) := by
  obtain ⟨_, _, h1, h2, _⟩ := okM_bounds h
  show some (wrap64 ((wrap64 (47 + (wrap64 (8 * x.f1)))) + (wrap64 (Int.tdiv (wrap64 (33 + (wrap64 (8 * x.f1)))) 4)))) = _
  rw [w64i (8 * x.f1) z3 z3, w64i (47 + 8 * x.f1) z3 z3, w64i (33 + 8 * x.f1) z3 z3, Int.tdiv_eq_ediv_of_nonneg z3, w64i ((33 + 8 * x.f1) / 4) z3 z3, w64i _ z3 z3]
  rfl
theorem bits_callsM (x : S55) (h : okM x = true) (w : World) : Calls Tryd.prog 87 #[.agg #[.int .i64 x.f0, .int .i64 x.f1, .int .i64 x.f2, .int .i64 x.f3]] w fun e w' => e = .returned (.int .i64 (bitsM x)) ∧ Below w.heap.size w w' :=
  bus_bits.calls x.f0 x.f1 x.f2 x.f3 (bitsM x) w (bits_ok h)
def inst (x : S55) (t : Int) : Int := (t + x.f3 + x.f2 - 1) / x.f2
def instW (x : S55) (t : Int) : Int := (t + x.f3) / x.f2 + 1
theorem ediv_le (a b : Int) (ha : 0 ≤ a) (hb : 1 ≤ b) : 0 ≤ a / b ∧ a / b ≤ a := ⟨Int.ediv_nonneg ha z3, Int.ediv_le_self _ ha⟩
theorem inst_bounds {x : S55} (h : okM x = true) {t : Int} (h0 : 0 ≤ t) (h1 : t ≤ 10000000) : 0 ≤ inst x t ∧ inst x t ≤ 10200000 := by
  obtain ⟨_, _, _, _, a, b, c, d⟩ := okM_bounds h
  have := ediv_le (t + x.f3 + x.f2 - 1) x.f2 z3 a
  unfold inst; omega
theorem instW_bounds {x : S55} (h : okM x = true) {t : Int} (h0 : 0 ≤ t) (h1 : t ≤ 10000000) : 1 ≤ instW x t ∧ instW x t ≤ 10200000 := by
  obtain ⟨_, _, _, _, a, b, c, d⟩ := okM_bounds h
  have := ediv_le (t + x.f3) x.f2 z3 a
  unfold instW; omega
theorem mulBits {p b : Int} (h0 : 0 ≤ p) (h1 : p ≤ 10200000) (h2 : 55 ≤ b) (h3 : b ≤ 135) : 0 ≤ p * b ∧ p * b ≤ 1400000000 := by
  refine ⟨Int.mul_nonneg h0 z3, ?_⟩
  have : p * b ≤ 10200000 * 135 := Int.mul_le_mul h1 h3 z3 z3
  omega
def sumI (f : S55 → Int) (l : List S55) : Nat → Int
  | 0 => 0
  | i + 1 => sumI f l i + f (rd_T55 l (i : Int))
theorem sumI_bounds (f : S55 → Int) (l : List S55) (c : Int) (hc : 0 ≤ c) (h : ∀ i, i < l.length → 0 ≤ f (rd_T55 l (i : Int)) ∧ f (rd_T55 l (i : Int)) ≤ c) : ∀ i : Nat, i ≤ l.length → 0 ≤ sumI f l i ∧ sumI f l i ≤ (i : Int) * c
  | 0, _ => by simp [sumI]
  | i + 1, hi => by
    obtain ⟨h1, h2⟩ := sumI_bounds f l c hc h i z3
    obtain ⟨h3, h4⟩ := h i z3
    simp only [sumI]
    have : ((i + 1 : Nat) : Int) * c = (i : Int) * c + c := by rw [Int.natCast_add, Int.add_mul]; simp
    omega
def busyN (blocked : Int) (x : S55) (win : List S55) (t : Int) : Int := blocked + inst x t * bitsM x + sumI (fun o => inst o t * bitsM o) win win.length
def waitN (blocked q : Int) (x : S55) (win : List S55) (t : Int) : Int := blocked + q * bitsM x + sumI (fun o => instW o t * bitsM o) win win.length
set_option maxHeartbeats 400000 in
set_option maxRecDepth 100000 in
theorem f97_any (x : S55) (t : Int) (w : World) (h : okM x = true) (h0 : 0 ≤ t) (h1 : t ≤ 10000000) : Calls Tryd.prog 97 #[.agg #[.int .i64 x.f0, .int .i64 x.f1, .int .i64 x.f2, .int .i64 x.f3], .int .i64 t] w fun e w' => e = .returned (.int .i64 (inst x t)) ∧ Below w.heap.size w w' := by
  obtain ⟨_, _, _, _, a, b, c, d⟩ := okM_bounds h
  have hu55 := Tryd.underlying55
  have hz : (x.f2 == 0) = false := beq_eq_false_iff_ne.mpr z3
  clear h
  go_enter Tryd.func97, Tryd.ntmps97
  go_wp2
  go_ret
  exact ⟨by unfold inst; rfl, below_alloc (Below.refl _ _) _⟩
def EnvG (w : World) (b i m v : Nat) (blocked : Int) (x : S55) (A : Option Addr) (c : Nat) (win : List S55) : Prop :=
  w.cell? ⟨b, 0, none⟩ = some (.int .i64 blocked) ∧ w.cell? ⟨i, 0, none⟩ = some (.func (.func 97) #[] #[]) ∧ w.cell? ⟨m, 0, none⟩ = some (.int .i64 x.f0) ∧ w.cell? ⟨m, 1, none⟩ = some (.int .i64 x.f1) ∧ w.cell? ⟨m, 2, none⟩ = some (.int .i64 x.f2) ∧ w.cell? ⟨m, 3, none⟩ = some (.int .i64 x.f3) ∧ w.cell? ⟨v, 0, none⟩ = some (.slice A win.length c) ∧ Kd.C k55 w A win.length win ∧ win.length ≤ c
theorem EnvG.below {w w' : World} {b i m v : Nat} {blocked : Int} {x : S55} {A : Option Addr} {c : Nat} {win : List S55} (h : EnvG w b i m v blocked x A c win) (hb : Below w.heap.size w w') : EnvG w' b i m v blocked x A c win := by
  obtain ⟨h0, h1, h2, h3, h4, h5, h6, h7, h8⟩ := h
  exact ⟨keepc hb h0, keepc hb h1, keepc hb h2, keepc hb h3, keepc hb h4, keepc hb h5, keepc hb h6, Kd.C_below h7 hb, h8⟩
set_option maxHeartbeats 2000000 in
set_option maxRecDepth 100000 in
theorem f99_any (b i m v : Nat) (blocked : Int) (x : S55) (A : Option Addr) (c : Nat) (win : List S55) (t : Int) (w : World) (h : EnvG w b i m v blocked x A c win) (hx : okM x = true) (hw : ∀ k, k < win.length → okM (rd_T55 win (k : Int)) = true) (hn : win.length ≤ 8) (hb0 : 0 ≤ blocked) (hb1 : blocked ≤ 135) (h0 : 0 ≤ t) (h1 : t ≤ 10000000) :
    Calls Tryd.prog 99 #[.int .i64 t, .pointer (some ⟨b, 0, none⟩), .pointer (some ⟨i, 0, none⟩), .pointer (some ⟨m, 0, none⟩), .pointer (some ⟨v, 0, none⟩)] w fun e w' => e = .returned (.int .i64 (busyN blocked x win t)) ∧ Below w.heap.size w w' := by
  have hu55 := Tryd.underlying55; have HE := aM h; have HX := aM hx; have HWN := aM hw; obtain ⟨hcb, hci, hc0, hc1, hc2, hc3, hcv, -, -⟩ := h; clear hx hw; (go_enter Tryd.func99, Tryd.ntmps99); go_wp2
  go_region_held3 (fun w1 => w1.cell? ⟨b, 0, none⟩ = some (.int .i64 blocked) ∧ w1.cell? ⟨i, 0, none⟩ = some (.func (.func 97) #[] #[]) ∧ w1.cell? ⟨m, 0, none⟩ = some (.int .i64 x.f0) ∧ w1.cell? ⟨m, 1, none⟩ = some (.int .i64 x.f1) ∧ w1.cell? ⟨m, 2, none⟩ = some (.int .i64 x.f2) ∧ w1.cell? ⟨m, 3, none⟩ = some (.int .i64 x.f3)) (first | exact ⟨hcb, hci, hc0, hc1, hc2, hc3⟩ | exact (fun (hh : EnvG _ b i m v blocked x A c win) => ⟨hh.1, hh.2.1, hh.2.2.1, hh.2.2.2.1, hh.2.2.2.2.1, hh.2.2.2.2.2.1⟩) (HE.out.below z11) | fail)
    (first
    | (go_at_call 97; refine (f97_any x t _ HX.out h0 h1).mono ?_; rintro e w1 ⟨rfl, b1⟩; have B1 : Aside0 (Below w.heap.size w w1) := ⟨below_step z11 b1⟩; clear b1)
    | (go_at_call 87; refine (bits_callsM x HX.out _).mono ?_; rintro e w2 ⟨rfl, b2⟩; have B2 : Aside0 (Below w.heap.size w w2) := ⟨below_step z11 b2⟩; clear b2))
  (rename_i hHeld); clear hHeld hcb hci hc0 hc1 hc2 hc3 hcv; (have HB2 : Aside0 (EnvG w2 b i m v blocked x A c win) := ⟨HE.out.below B2.out⟩); (have hcv : w2.cell? ⟨v, 0, none⟩ = some (.slice A win.length c) := HB2.out.2.2.2.2.2.2.1); (have hm := mulBits (p := inst x t) (b := bitsM x) ((inst_bounds HX.out h0 h1).1) ((inst_bounds HX.out h0 h1).2) (bitsM_bounds HX.out).1 (bitsM_bounds HX.out).2); (have e1 : IntKind.i64.wrap (inst x t * bitsM x) = inst x t * bitsM x := IntWalk.i64_in _ z3); (have e2 : IntKind.i64.wrap (blocked + inst x t * bitsM x) = blocked + inst x t * bitsM x := IntWalk.i64_in _ z3); have HM := aM hm; have E1 := aM e1; have E2 := aM e2; clear hm e1 e2; go_wp2; rw [E1.out, E2.out]; (go_loopg [7, 21] win.length (fun gk v7 vi w' => ∃ k : Nat, v7 = .int .i64 (blocked + inst x t * bitsM x + sumI (fun o => inst o t * bitsM o) win k) ∧ vi = .int .i64 (k : Int) ∧ k ≤ win.length ∧ Aside0 (gk = win.length - k) ∧ Aside0 (EnvG w' b i m v blocked x A c win) ∧ Aside0 (Below w.heap.size w w'))); (case atStart => exact ⟨0, by simp [sumI], rfl, by omega, ⟨rfl⟩, HB2, B2⟩)
  case round =>
   clear HB2 B2; obtain ⟨k, rfl, rfl, hk, HK, HE2, HB⟩ := hrel; by_cases hlt : k < win.length; rotate_left
   · (obtain rfl : k = win.length := by omega); go_wp2; go_ret; (exact ⟨by unfold busyN; rfl, HB.out⟩)
   (have HO := aM (HWN.out k hlt)); (obtain ⟨ad, e0, hx0, hx1, hx2, hx3⟩ := at_T55 HE2.out.2.2.2.2.2.2.2.1 (k : Int) z3 z3); cases e0; simp only [Int.toNat_natCast] at hx0 hx1 hx2 hx3
   have hsum := sumI_bounds (fun o => inst o t * bitsM o) win 1400000000 z3 (fun k hk => by
     have h3 := HWN.out k hk
     have h4 := inst_bounds h3 h0 h1
     exact mulBits z3 h4.2 (bitsM_bounds h3).1 (bitsM_bounds h3).2) k hk
   (have HSUM : Aside0 (sumI (fun o => inst o t * bitsM o) win (k + 1) = sumI (fun o => inst o t * bitsM o) win k + (inst (rd_T55 win (k : Int)) t * bitsM (rd_T55 win (k : Int)))) := ⟨rfl⟩); (generalize rd_T55 win (k : Int) = o at HO HSUM hx0 hx1 hx2 hx3); (generalize sumI (fun o => inst o t * bitsM o) win k = sm at hsum HSUM ⊢)
   have hsb : 0 ≤ sm ∧ sm ≤ 11200000000 := by
     have : (k : Int) * 1400000000 ≤ 8 * 1400000000 := Int.mul_le_mul_of_nonneg_right z3 z3
     omega
   have HSB := aM hsb; clear hsum hsb; (go_upto_region 5 with (fail)); (have M0 : (wr.alloc (.cells #[.int .i64 o.f0, .int .i64 o.f1, .int .i64 o.f2, .int .i64 o.f3] 55)).heap[wr.heap.size]? = some (.cells #[.int .i64 o.f0, .int .i64 o.f1, .int .i64 o.f2, .int .i64 o.f3] 55 (0, 0)) := blk_new _ _); (have HB3 : Aside0 (Below w.heap.size w (wr.alloc (.cells #[.int .i64 o.f0, .int .i64 o.f1, .int .i64 o.f2, .int .i64 o.f3] 55))) := ⟨below_alloc HB.out _⟩); (have HE3 : Aside0 (EnvG (wr.alloc (.cells #[.int .i64 o.f0, .int .i64 o.f1, .int .i64 o.f2, .int .i64 o.f3] 55)) b i m v blocked x (some ad) c win) := ⟨HE2.out.below (below_alloc (Below.refl _ _) _)⟩); clear hx0 hx1 hx2 hx3 HB HE2; (generalize wr.alloc (.cells #[.int .i64 o.f0, .int .i64 o.f1, .int .i64 o.f2, .int .i64 o.f3] 55) = W at M0 HB3 HE3 ⊢); (generalize wr.heap.size = g at M0 ⊢); (have hg0 : W.cell? ⟨g, 0, none⟩ = some (.int .i64 o.f0) := (blk_cell M0 0).trans rfl); (have hg1 : W.cell? ⟨g, 1, none⟩ = some (.int .i64 o.f1) := (blk_cell M0 1).trans rfl); (have hg2 : W.cell? ⟨g, 2, none⟩ = some (.int .i64 o.f2) := (blk_cell M0 2).trans rfl); (have hg3 : W.cell? ⟨g, 3, none⟩ = some (.int .i64 o.f3) := (blk_cell M0 3).trans rfl); (have hci2 : W.cell? ⟨i, 0, none⟩ = some (.func (.func 97) #[] #[]) := HE3.out.2.1); (have HS0 : Aside0 (∀ W1, Below W.heap.size W W1 → (fun w1 => w1.cell? ⟨i, 0, none⟩ = some (.func (.func 97) #[] #[]) ∧ w1.cell? ⟨g, 0, none⟩ = some (.int .i64 o.f0) ∧ w1.cell? ⟨g, 1, none⟩ = some (.int .i64 o.f1) ∧ w1.cell? ⟨g, 2, none⟩ = some (.int .i64 o.f2) ∧ w1.cell? ⟨g, 3, none⟩ = some (.int .i64 o.f3)) W1) := ⟨fun W1 hb => ⟨HE3.out.below hb |>.2.1, (blk_cell (blk_below M0 hb) 0).trans rfl, (blk_cell (blk_below M0 hb) 1).trans rfl, (blk_cell (blk_below M0 hb) 2).trans rfl, (blk_cell (blk_below M0 hb) 3).trans rfl⟩⟩)
   clear M0
   go_region_held3 (fun w1 => w1.cell? ⟨i, 0, none⟩ = some (.func (.func 97) #[] #[]) ∧ w1.cell? ⟨g, 0, none⟩ = some (.int .i64 o.f0) ∧ w1.cell? ⟨g, 1, none⟩ = some (.int .i64 o.f1) ∧ w1.cell? ⟨g, 2, none⟩ = some (.int .i64 o.f2) ∧ w1.cell? ⟨g, 3, none⟩ = some (.int .i64 o.f3)) (first | exact ⟨hci2, hg0, hg1, hg2, hg3⟩ | exact HS0.out _ (by repeat (first | exact Below.refl _ _ | exact B4.out | exact B3.out | apply below_alloc | apply pw_below_drewN | apply below_drew1)) | go_keep)
     (first
     | (go_at_call 97; refine (f97_any o t _ HO.out h0 h1).mono ?_; rintro e w3 ⟨rfl, b3⟩; have B3 : Aside0 (Below W.heap.size W w3) := ⟨below_step (by repeat (first | exact Below.refl _ _ | exact B4.out | exact B3.out | apply below_alloc | apply pw_below_drewN | apply below_drew1)) b3⟩; clear b3)
     | (go_at_call 87; refine (bits_callsM o HO.out _).mono ?_; rintro e w4 ⟨rfl, b4⟩; have B4 : Aside0 (Below W.heap.size W w4) := ⟨below_step (by repeat (first | exact Below.refl _ _ | exact B4.out | exact B3.out | apply below_alloc | apply pw_below_drewN | apply below_drew1)) b4⟩; clear b4))
   (rename_i hHeld); clear hHeld hg0 hg1 hg2 hg3 HS0 hci2; (have HE4 : Aside0 (EnvG w4 b i m v blocked x (some ad) c win) := ⟨HE3.out.below B4.out⟩); (have HB4 : Aside0 (Below w.heap.size w w4) := ⟨below_step HB3.out B4.out⟩); (have hm2 := mulBits (p := inst o t) (b := bitsM o) (by have := inst_bounds HO.out h0 h1; omega) (inst_bounds HO.out h0 h1).2 (bitsM_bounds HO.out).1 (bitsM_bounds HO.out).2); (have e3 : IntKind.i64.wrap (inst o t * bitsM o) = inst o t * bitsM o := IntWalk.i64_in _ z3); (have e4 : IntKind.i64.wrap (blocked + inst x t * bitsM x + sm + (inst o t * bitsM o)) = blocked + inst x t * bitsM x + sm + (inst o t * bitsM o) := IntWalk.i64_in _ (by have := HM.out; have := HSB.out; omega)); have E3 := aM e3; have E4 := aM e4; clear hm2 e3 e4; go_wp2; (go_roundg (win.length - (k + 1))); (case measure => have := HK.out; omega); (case rel => exact ⟨k + 1, by rw [HSUM.out, E3.out, E4.out]; congr 1; omega, by go_num, by omega, ⟨rfl⟩, HE4, HB4⟩)
set_option maxHeartbeats 2000000 in
set_option maxRecDepth 100000 in
theorem f100_any (b i m v : Nat) (qc : Nat) (q : Int) (blocked : Int) (x : S55) (A : Option Addr) (c : Nat) (win : List S55) (t : Int) (w : World) (h : EnvG w b i m v blocked x A c win) (hq : w.cell? ⟨qc, 0, none⟩ = some (.int .i64 q)) (hq0 : 0 ≤ q) (hq1 : q ≤ 10200000) (hx : okM x = true) (hw : ∀ k, k < win.length → okM (rd_T55 win (k : Int)) = true) (hn : win.length ≤ 8) (hb0 : 0 ≤ blocked) (hb1 : blocked ≤ 135) (h0 : 0 ≤ t) (h1 : t ≤ 10000000) :
    Calls Tryd.prog 100 #[.int .i64 t, .pointer (some ⟨b, 0, none⟩), .pointer (some ⟨qc, 0, none⟩), .pointer (some ⟨m, 0, none⟩), .pointer (some ⟨v, 0, none⟩)] w fun e w' => e = .returned (.int .i64 (waitN blocked q x win t)) ∧ Below w.heap.size w w' := by
  have hu55 := Tryd.underlying55; have HE := aM h; have HX := aM hx; have HWN := aM hw; (have HQ : Aside0 (∀ w1, Below w.heap.size w w1 → w1.cell? ⟨qc, 0, none⟩ = some (.int .i64 q)) := ⟨fun w1 hb => keepc hb hq⟩); have hcq := hq; obtain ⟨hcb, hci, hc0, hc1, hc2, hc3, hcv, -, -⟩ := h; clear hx hw hq; (go_enter Tryd.func100, Tryd.ntmps100); go_wp2
  go_region_held3 (fun w1 => w1.cell? ⟨b, 0, none⟩ = some (.int .i64 blocked) ∧ w1.cell? ⟨qc, 0, none⟩ = some (.int .i64 q) ∧ w1.cell? ⟨m, 0, none⟩ = some (.int .i64 x.f0) ∧ w1.cell? ⟨m, 1, none⟩ = some (.int .i64 x.f1) ∧ w1.cell? ⟨m, 2, none⟩ = some (.int .i64 x.f2) ∧ w1.cell? ⟨m, 3, none⟩ = some (.int .i64 x.f3)) (first | exact ⟨hcb, hcq, hc0, hc1, hc2, hc3⟩ | exact (fun (hh : EnvG _ b i m v blocked x A c win) hq => ⟨hh.1, hq, hh.2.2.1, hh.2.2.2.1, hh.2.2.2.2.1, hh.2.2.2.2.2.1⟩) (HE.out.below z11) (HQ.out _ z11) | fail)
    (first
    | (go_at_call 87; refine (bits_callsM x HX.out _).mono ?_; rintro e w2 ⟨rfl, b2⟩; have B2 : Aside0 (Below w.heap.size w w2) := ⟨below_step z11 b2⟩; clear b2))
  (rename_i hHeld); clear hHeld hcb hci hc0 hc1 hc2 hc3 hcv hcq; (have HB2 : Aside0 (EnvG w2 b i m v blocked x A c win) := ⟨HE.out.below B2.out⟩); (have hcv : w2.cell? ⟨v, 0, none⟩ = some (.slice A win.length c) := HB2.out.2.2.2.2.2.2.1); (have hm := mulBits (p := q) (b := bitsM x) (hq0) (hq1) (bitsM_bounds HX.out).1 (bitsM_bounds HX.out).2); (have e1 : IntKind.i64.wrap (q * bitsM x) = q * bitsM x := IntWalk.i64_in _ z3); (have e2 : IntKind.i64.wrap (blocked + q * bitsM x) = blocked + q * bitsM x := IntWalk.i64_in _ z3); have HM := aM hm; have E1 := aM e1; have E2 := aM e2; clear hm e1 e2; go_wp2; rw [E1.out, E2.out]; (go_loopg [7, 18] win.length (fun gk v7 vi w' => ∃ k : Nat, v7 = .int .i64 (blocked + q * bitsM x + sumI (fun o => instW o t * bitsM o) win k) ∧ vi = .int .i64 (k : Int) ∧ k ≤ win.length ∧ Aside0 (gk = win.length - k) ∧ Aside0 (EnvG w' b i m v blocked x A c win) ∧ Aside0 (Below w.heap.size w w'))); (case atStart => exact ⟨0, by simp [sumI], rfl, by omega, ⟨rfl⟩, HB2, B2⟩)
  case round =>
   clear HB2 B2; obtain ⟨k, rfl, rfl, hk, HK, HE2, HB⟩ := hrel; by_cases hlt : k < win.length; rotate_left
   · (obtain rfl : k = win.length := by omega); go_wp2; go_ret; (exact ⟨by unfold waitN; rfl, HB.out⟩)
   (have HO := aM (HWN.out k hlt)); (obtain ⟨ad, e0, hx0, hx1, hx2, hx3⟩ := at_T55 HE2.out.2.2.2.2.2.2.2.1 (k : Int) z3 z3); cases e0; simp only [Int.toNat_natCast] at hx0 hx1 hx2 hx3
   have hsum := sumI_bounds (fun o => instW o t * bitsM o) win 1400000000 z3 (fun k hk => by
     have h3 := HWN.out k hk
     have h4 := instW_bounds h3 h0 h1
     exact mulBits z3 h4.2 (bitsM_bounds h3).1 (bitsM_bounds h3).2) k hk
   (have HSUM : Aside0 (sumI (fun o => instW o t * bitsM o) win (k + 1) = sumI (fun o => instW o t * bitsM o) win k + (instW (rd_T55 win (k : Int)) t * bitsM (rd_T55 win (k : Int)))) := ⟨rfl⟩); (generalize rd_T55 win (k : Int) = o at HO HSUM hx0 hx1 hx2 hx3); (generalize sumI (fun o => instW o t * bitsM o) win k = sm at hsum HSUM ⊢)
   have hsb : 0 ≤ sm ∧ sm ≤ 11200000000 := by
     have : (k : Int) * 1400000000 ≤ 8 * 1400000000 := Int.mul_le_mul_of_nonneg_right z3 z3
     omega
   have HSB := aM hsb; clear hsum hsb; (go_upto_region 5 with (fail)); (have M0 : (wr.alloc (.cells #[.int .i64 o.f0, .int .i64 o.f1, .int .i64 o.f2, .int .i64 o.f3] 55)).heap[wr.heap.size]? = some (.cells #[.int .i64 o.f0, .int .i64 o.f1, .int .i64 o.f2, .int .i64 o.f3] 55 (0, 0)) := blk_new _ _); (have HB3 : Aside0 (Below w.heap.size w (wr.alloc (.cells #[.int .i64 o.f0, .int .i64 o.f1, .int .i64 o.f2, .int .i64 o.f3] 55))) := ⟨below_alloc HB.out _⟩); (have HE3 : Aside0 (EnvG (wr.alloc (.cells #[.int .i64 o.f0, .int .i64 o.f1, .int .i64 o.f2, .int .i64 o.f3] 55)) b i m v blocked x (some ad) c win) := ⟨HE2.out.below (below_alloc (Below.refl _ _) _)⟩); clear hx0 hx1 hx2 hx3 HB HE2; (generalize wr.alloc (.cells #[.int .i64 o.f0, .int .i64 o.f1, .int .i64 o.f2, .int .i64 o.f3] 55) = W at M0 HB3 HE3 ⊢); (generalize wr.heap.size = g at M0 ⊢); (have hg0 : W.cell? ⟨g, 0, none⟩ = some (.int .i64 o.f0) := (blk_cell M0 0).trans rfl); (have hg1 : W.cell? ⟨g, 1, none⟩ = some (.int .i64 o.f1) := (blk_cell M0 1).trans rfl); (have hg2 : W.cell? ⟨g, 2, none⟩ = some (.int .i64 o.f2) := (blk_cell M0 2).trans rfl); (have hg3 : W.cell? ⟨g, 3, none⟩ = some (.int .i64 o.f3) := (blk_cell M0 3).trans rfl); (have HS0 : Aside0 (∀ W1, Below W.heap.size W W1 → (fun w1 => w1.cell? ⟨g, 0, none⟩ = some (.int .i64 o.f0) ∧ w1.cell? ⟨g, 1, none⟩ = some (.int .i64 o.f1) ∧ w1.cell? ⟨g, 2, none⟩ = some (.int .i64 o.f2) ∧ w1.cell? ⟨g, 3, none⟩ = some (.int .i64 o.f3)) W1) := ⟨fun W1 hb => ⟨(blk_cell (blk_below M0 hb) 0).trans rfl, (blk_cell (blk_below M0 hb) 1).trans rfl, (blk_cell (blk_below M0 hb) 2).trans rfl, (blk_cell (blk_below M0 hb) 3).trans rfl⟩⟩)
   clear M0; (obtain ⟨_, _, _, _, ob1, ob2, ob3, ob4⟩ := okM_bounds HO.out); (have z0 : 0 ≤ t + o.f3 := by omega); (have hz : (o.f2 == 0) = false := beq_eq_false_iff_ne.mpr z3); (have hz2 : ¬ o.f2 = 0 := by omega); (have zd := ediv_le (t + o.f3) o.f2 z0 ob1); (have s2 : IntKind.i64.wrap ((t + o.f3) / o.f2) = (t + o.f3) / o.f2 := IntWalk.i64_in _ z3); (have s3 : IntKind.i64.wrap ((t + o.f3) / o.f2 + 1) = (t + o.f3) / o.f2 + 1 := IntWalk.i64_in _ z3); (have s1 : IntKind.i64.wrap (t + o.f3) = t + o.f3 := IntWalk.i64_in _ z3); clear zd ob2 ob3 ob4
   go_region_held3 (fun w1 => w1.cell? ⟨g, 0, none⟩ = some (.int .i64 o.f0) ∧ w1.cell? ⟨g, 1, none⟩ = some (.int .i64 o.f1) ∧ w1.cell? ⟨g, 2, none⟩ = some (.int .i64 o.f2) ∧ w1.cell? ⟨g, 3, none⟩ = some (.int .i64 o.f3)) (first | exact ⟨hg0, hg1, hg2, hg3⟩ | exact HS0.out _ (by repeat (first | exact Below.refl _ _ | exact B4.out | exact B3.out | apply below_alloc | apply pw_below_drewN | apply below_drew1)) | go_keep)
     (first
     | (go_at_call 87; refine (bits_callsM o HO.out _).mono ?_; rintro e w4 ⟨rfl, b4⟩; have B4 : Aside0 (Below W.heap.size W w4) := ⟨below_step (by repeat (first | exact Below.refl _ _ | exact B4.out | exact B3.out | apply below_alloc | apply pw_below_drewN | apply below_drew1)) b4⟩; clear b4))
   (rename_i hHeld); clear hHeld hg0 hg1 hg2 hg3 HS0; (have HE4 : Aside0 (EnvG w4 b i m v blocked x (some ad) c win) := ⟨HE3.out.below B4.out⟩); (have HB4 : Aside0 (Below w.heap.size w w4) := ⟨below_step HB3.out B4.out⟩); (have hm2 := mulBits (p := instW o t) (b := bitsM o) (by have := instW_bounds HO.out h0 h1; omega) (instW_bounds HO.out h0 h1).2 (bitsM_bounds HO.out).1 (bitsM_bounds HO.out).2); (have e3 : IntKind.i64.wrap (instW o t * bitsM o) = instW o t * bitsM o := IntWalk.i64_in _ z3); (have e4 : IntKind.i64.wrap (blocked + q * bitsM x + sm + (instW o t * bitsM o)) = blocked + q * bitsM x + sm + (instW o t * bitsM o) := IntWalk.i64_in _ (by have := HM.out; have := HSB.out; omega)); have E3 := aM e3; have E4 := aM e4
   have E5 : Aside0 (IntKind.i64.wrap (IntKind.i64.wrap ((t + o.f3).tdiv o.f2) + 1) = instW o t) := ⟨by
     obtain ⟨_, _, _, _, ob1, ob2, ob3, ob4⟩ := okM_bounds HO.out
     have zd := ediv_le (t + o.f3) o.f2 z3 ob1
     rw [Int.tdiv_eq_ediv_of_nonneg z3, IntWalk.i64_in ((t + o.f3) / o.f2) z3, IntWalk.i64_in _ z3]; rfl⟩
   clear hm2 e3 e4; go_wp2; (go_roundg (win.length - (k + 1))); (case measure => have := HK.out; omega); (case rel => exact ⟨k + 1, by rw [HSUM.out, E5.out, E3.out, E4.out]; congr 1; omega, by go_num, by omega, ⟨rfl⟩, HE4, HB4⟩)
end Go.Proofs.YtbanemecfobonaaDoor.B
end
section
namespace Go.Proofs.YtbanemecfobonaaDoor.B
open Go.RowKit Go.Proofs.YtbanemecfobonaaDoorW.PrintWords Go.Proofs.YtbanemecfobonaaDoorW.PrintLast Go.Proofs.YtbanemecfobonaaDoorW.PrintMore
set_option linter.unusedVariables false
set_option linter.unusedSimpArgs false
def fixF (g : Int → Int) : Nat → Int → Option (Int × Bool)
  | 0, _ => none
  | k + 1, t => if 10000000 < g t then some (0, false) else if g t = t then some (t, true) else fixF g k (g t)
theorem sum_nonneg (f : S55 → Int) (l : List S55) (h : ∀ i, i < l.length → 0 ≤ f (rd_T55 l (i : Int))) : ∀ i : Nat, i ≤ l.length → 0 ≤ sumI f l i
  | 0, _ => by simp [sumI]
  | i + 1, hi => by
    have h1 := sum_nonneg f l h i z3
    have h2 := h i z3
    simp only [sumI]; omega
theorem busyN_nonneg {blocked : Int} {x : S55} {win : List S55} {t : Int} (hx : okM x = true) (hw : ∀ k, k < win.length → okM (rd_T55 win (k : Int)) = true) (hb0 : 0 ≤ blocked) (h0 : 0 ≤ t) (h1 : t ≤ 10000000) : 0 ≤ busyN blocked x win t := by
  have a := inst_bounds hx h0 h1
  have b := mulBits a.1 a.2 (bitsM_bounds hx).1 (bitsM_bounds hx).2
  have c := sum_nonneg (fun o => inst o t * bitsM o) win (fun i hi => by
    have h3 := hw i hi
    have h4 := inst_bounds h3 h0 h1
    exact (mulBits h4.1 h4.2 (bitsM_bounds h3).1 (bitsM_bounds h3).2).1) win.length (Nat.le_refl _)
  unfold busyN; omega
theorem waitN_nonneg {blocked q : Int} {x : S55} {win : List S55} {t : Int} (hx : okM x = true) (hw : ∀ k, k < win.length → okM (rd_T55 win (k : Int)) = true) (hb0 : 0 ≤ blocked) (hq0 : 0 ≤ q) (hq1 : q ≤ 10200000) (h0 : 0 ≤ t) (h1 : t ≤ 10000000) : 0 ≤ waitN blocked q x win t := by
  have b := mulBits hq0 hq1 (bitsM_bounds hx).1 (bitsM_bounds hx).2
  have c := sum_nonneg (fun o => instW o t * bitsM o) win (fun i hi => by
    have h3 := hw i hi
    have h4 := instW_bounds h3 h0 h1
    exact (mulBits z3 h4.2 (bitsM_bounds h3).1 (bitsM_bounds h3).2).1) win.length (Nat.le_refl _)
  unfold waitN; omega
set_option maxHeartbeats 800000 in
set_option maxRecDepth 100000 in
theorem fixed99 (k b i m v : Nat) (blocked : Int) (x : S55) (A : Option Addr) (c : Nat) (win : List S55) (t r : Int) (ok : Bool) (w : World) (h : EnvG w b i m v blocked x A c win) (hx : okM x = true) (hw : ∀ k, k < win.length → okM (rd_T55 win (k : Int)) = true) (hn : win.length ≤ 8) (hb0 : 0 ≤ blocked) (hb1 : blocked ≤ 135) (h0 : 0 ≤ t) (h1 : t ≤ 10000000) (hf : fixF (busyN blocked x win) k t = some (r, ok)) :
    Calls Tryd.prog 98 #[.int .i64 t, .func (.func 99) #[] #[.pointer (some ⟨b, 0, none⟩), .pointer (some ⟨i, 0, none⟩), .pointer (some ⟨m, 0, none⟩), .pointer (some ⟨v, 0, none⟩)]] w fun e w' => e = .returned (.tuple #[.int .i64 r, .bool ok]) ∧ Below w.heap.size w w' := by
  have HE := aM h; have HX := aM hx; have HWN := aM hw; have HF := aM hf; (have H01 := aM (⟨h0, h1⟩ : _ ∧ _)); (have HBR := aM (Below.refl w.heap.size w)); clear h hx hw hf h0 h1; (go_enter Tryd.func98, Tryd.ntmps98); go_wp2; (go_loopg [0] k (fun gk v0 w' => ∃ t : Int, v0 = .int .i64 t ∧ 0 ≤ t ∧ t ≤ 10000000 ∧ Aside0 (fixF (busyN blocked x win) gk t = some (r, ok)) ∧ Aside0 (EnvG w' b i m v blocked x A c win) ∧ Aside0 (Below w.heap.size w w'))); (case atStart => exact ⟨t, rfl, H01.out.1, H01.out.2, HF, HE, HBR⟩)
  case round =>
   clear HF HE HBR H01; obtain ⟨t, rfl, h2, h3, HF, HE, HB⟩ := hrel
   cases gk with
   | zero => exact absurd HF.out (by simp [fixF])
   | succ gk =>
    have h := HF.out; rw [fixF] at h; (have hnn := busyN_nonneg HX.out HWN.out hb0 h2 h3); (have HC : Aside0 (Calls Tryd.prog 99 #[.int .i64 t, .pointer (some ⟨b, 0, none⟩), .pointer (some ⟨i, 0, none⟩), .pointer (some ⟨m, 0, none⟩), .pointer (some ⟨v, 0, none⟩)] wr fun e w' => e = .returned (.int .i64 (busyN blocked x win t)) ∧ Below wr.heap.size wr w') := ⟨f99_any b i m v blocked x A c win t _ HE.out HX.out HWN.out hn hb0 hb1 h2 h3⟩); (generalize busyN blocked x win t = nx at h hnn HC); by_cases c1 : 10000000 < nx
    · rw [if_pos c1] at h; (obtain ⟨rfl, rfl⟩ := Prod.mk.inj (sI h)); (have t1 := dT c1); clear h c1 HF; (go_wp2_with (first | (go_at_call 99; refine HC.out.mono ?_; rintro e w3 ⟨rfl, b3⟩; replace b3 := aM b3))); go_ret2; (exact ⟨rfl, below_step HB.out b3.out⟩)
    rw [if_neg c1] at h; (have t1 := dF c1); by_cases c2 : nx = t
    · rw [if_pos c2] at h; (obtain ⟨rfl, rfl⟩ := Prod.mk.inj (sI h)); subst c2; clear h c1 HF; (go_wp2_with (first | (go_at_call 99; refine HC.out.mono ?_; rintro e w3 ⟨rfl, b3⟩; replace b3 := aM b3))); go_ret2; (exact ⟨rfl, below_step HB.out b3.out⟩)
    rw [if_neg c2] at h; (have t2 : (nx == t) = false := beq_eq_false_iff_ne.mpr c2); have H' := aM h; (have c1' : nx ≤ 10000000 := by omega); clear h c1 c2 HF; (go_wp2_with (first | (go_at_call 99; refine HC.out.mono ?_; rintro e w3 ⟨rfl, b3⟩; replace b3 := aM b3))); (go_roundg gk); (case measure => omega); (case rel => exact ⟨nx, rfl, hnn, c1', H', ⟨HE.out.below b3.out⟩, ⟨below_step HB.out b3.out⟩⟩)
set_option maxHeartbeats 800000 in
set_option maxRecDepth 100000 in
theorem fixed100 (k b i m v : Nat) (qc : Nat) (q : Int) (blocked : Int) (x : S55) (A : Option Addr) (c : Nat) (win : List S55) (t r : Int) (ok : Bool) (w : World) (h : EnvG w b i m v blocked x A c win) (hq : w.cell? ⟨qc, 0, none⟩ = some (.int .i64 q)) (hq0 : 0 ≤ q) (hq1 : q ≤ 10200000) (hx : okM x = true) (hw : ∀ k, k < win.length → okM (rd_T55 win (k : Int)) = true) (hn : win.length ≤ 8) (hb0 : 0 ≤ blocked) (hb1 : blocked ≤ 135) (h0 : 0 ≤ t) (h1 : t ≤ 10000000) (hf : fixF (waitN blocked q x win) k t = some (r, ok)) :
    Calls Tryd.prog 98 #[.int .i64 t, .func (.func 100) #[] #[.pointer (some ⟨b, 0, none⟩), .pointer (some ⟨qc, 0, none⟩), .pointer (some ⟨m, 0, none⟩), .pointer (some ⟨v, 0, none⟩)]] w fun e w' => e = .returned (.tuple #[.int .i64 r, .bool ok]) ∧ Below w.heap.size w w' := by
  have HE := aM h; have HX := aM hx; have HWN := aM hw; have HF := aM hf; (have H01 := aM (⟨h0, h1⟩ : _ ∧ _)); (have HBR := aM (Below.refl w.heap.size w)); (have HQ : Aside0 (∀ w1, Below w.heap.size w w1 → w1.cell? ⟨qc, 0, none⟩ = some (.int .i64 q)) := ⟨fun w1 hb => keepc hb hq⟩); clear hq; clear h hx hw hf h0 h1; (go_enter Tryd.func98, Tryd.ntmps98); go_wp2; (go_loopg [0] k (fun gk v0 w' => ∃ t : Int, v0 = .int .i64 t ∧ 0 ≤ t ∧ t ≤ 10000000 ∧ Aside0 (fixF (waitN blocked q x win) gk t = some (r, ok)) ∧ Aside0 (EnvG w' b i m v blocked x A c win) ∧ Aside0 (Below w.heap.size w w'))); (case atStart => exact ⟨t, rfl, H01.out.1, H01.out.2, HF, HE, HBR⟩)
  case round =>
   clear HF HE HBR H01; obtain ⟨t, rfl, h2, h3, HF, HE, HB⟩ := hrel
   cases gk with
   | zero => exact absurd HF.out (by simp [fixF])
   | succ gk =>
    have h := HF.out; rw [fixF] at h; (have hnn := waitN_nonneg HX.out HWN.out hb0 hq0 hq1 h2 h3); (have HC : Aside0 (Calls Tryd.prog 100 #[.int .i64 t, .pointer (some ⟨b, 0, none⟩), .pointer (some ⟨qc, 0, none⟩), .pointer (some ⟨m, 0, none⟩), .pointer (some ⟨v, 0, none⟩)] wr fun e w' => e = .returned (.int .i64 (waitN blocked q x win t)) ∧ Below wr.heap.size wr w') := ⟨f100_any b i m v qc q blocked x A c win t _ HE.out (HQ.out _ HB.out) hq0 hq1 HX.out HWN.out hn hb0 hb1 h2 h3⟩); (generalize waitN blocked q x win t = nx at h hnn HC); by_cases c1 : 10000000 < nx
    · rw [if_pos c1] at h; (obtain ⟨rfl, rfl⟩ := Prod.mk.inj (sI h)); (have t1 := dT c1); clear h c1 HF; (go_wp2_with (first | (go_at_call 100; refine HC.out.mono ?_; rintro e w3 ⟨rfl, b3⟩; replace b3 := aM b3))); go_ret2; (exact ⟨rfl, below_step HB.out b3.out⟩)
    rw [if_neg c1] at h; (have t1 := dF c1); by_cases c2 : nx = t
    · rw [if_pos c2] at h; (obtain ⟨rfl, rfl⟩ := Prod.mk.inj (sI h)); subst c2; clear h c1 HF; (go_wp2_with (first | (go_at_call 100; refine HC.out.mono ?_; rintro e w3 ⟨rfl, b3⟩; replace b3 := aM b3))); go_ret2; (exact ⟨rfl, below_step HB.out b3.out⟩)
    rw [if_neg c2] at h; (have t2 : (nx == t) = false := beq_eq_false_iff_ne.mpr c2); have H' := aM h; (have c1' : nx ≤ 10000000 := by omega); clear h c1 c2 HF; (go_wp2_with (first | (go_at_call 100; refine HC.out.mono ?_; rintro e w3 ⟨rfl, b3⟩; replace b3 := aM b3))); (go_roundg gk); (case measure => omega); (case rel => exact ⟨nx, rfl, hnn, c1', H', ⟨HE.out.below b3.out⟩, ⟨below_step HB.out b3.out⟩⟩)
end Go.Proofs.YtbanemecfobonaaDoor.B
end
section
namespace Go.Proofs.YtbanemecfobonaaDoor.B
open Go.RowKit Go.Proofs.YtbanemecfobonaaDoorW.PrintWords Go.Proofs.YtbanemecfobonaaDoorW.PrintLast Go.Proofs.YtbanemecfobonaaDoorW.PrintMore
attribute [local go_sem] max2_int max_two
set_option linter.unusedVariables false
set_option linter.unusedSimpArgs false
def maxTo (l : List S55) : Nat → Int
  | 0 => 0
  | i + 1 => max (maxTo l i) (bitsM (rd_T55 l (i : Int)))
def waitTo (k : Nat) (blocked : Int) (x : S55) (win : List S55) : Nat → Int → Int → Int → Option (Int × Bool)
  | 0, q, v, worst => some (worst, true)
  | n + 1, q, v, worst => (fixF (waitN blocked q x win) k v).bind fun s =>
      if s.2 = false ∨ 10000000 < max worst (x.f3 + s.1 - q * x.f2 + bitsM x) then some (0, false) else waitTo k blocked x win n (q + 1) s.1 (max worst (x.f3 + s.1 - q * x.f2 + bitsM x))
def fullC (k : Nat) (l : List S55) : Option Int :=
  (bus_share.f k l).bind fun s => (big_of.f k 1).bind fun n => (ratSet (divG k) k k n n).bind fun u => ratCmp k s.1 s.2 u.1 u.2
def delayF (k : Nat) (x : S55) (win lose : List S55) : Option (Int × Bool) :=
  (fullC k ([x] ++ win)).bind fun c => if 0 ≤ c then some (0, false) else
    (fixF (busyN (maxTo lose lose.length) x win) k 1).bind fun s => if s.2 = false then some (0, false) else
      waitTo k (maxTo lose lose.length) x win (inst x s.1).toNat 0 0 0
theorem maxTo_bounds (l : List S55) (h : ∀ i, i < l.length → okM (rd_T55 l (i : Int)) = true) : ∀ i : Nat, i ≤ l.length → 0 ≤ maxTo l i ∧ maxTo l i ≤ 135
  | 0, _ => by simp [maxTo]
  | i + 1, hi => by
    have h1 := maxTo_bounds l h i z3
    have h2 := bitsM_bounds (h i z3)
    simp only [maxTo]; omega
theorem fixF_bounds (g : Int → Int) (hg : ∀ t, 0 ≤ t → t ≤ 10000000 → 0 ≤ g t) : ∀ (k : Nat) (t r : Int), 0 ≤ t → t ≤ 10000000 → fixF g k t = some (r, true) → 0 ≤ r ∧ r ≤ 10000000 ∧ g r = r
  | 0, t, r, _, _, h => by simp [fixF] at h
  | k + 1, t, r, h0, h1, h => by
    rw [fixF] at h
    by_cases c1 : 10000000 < g t
    · rw [if_pos c1] at h; simp at h
    · rw [if_neg c1] at h
      by_cases c2 : g t = t
      · rw [if_pos c2] at h
        obtain rfl : t = r := by simpa using h
        exact ⟨h0, h1, c2⟩
      · rw [if_neg c2] at h
        exact fixF_bounds g hg k (g t) r (hg t h0 h1) z3 h
theorem fixF_false (g : Int → Int) : ∀ (k : Nat) (t r : Int), fixF g k t = some (r, false) → r = 0
  | 0, t, r, h => by simp [fixF] at h
  | k + 1, t, r, h => by
    rw [fixF] at h
    split at h
    · simpa using h.symm
    · split at h
      · simp at h
      · exact fixF_false g k _ r h
theorem fixF_range (g : Int → Int) (hg : ∀ t, 0 ≤ t → t ≤ 10000000 → 0 ≤ g t) (k : Nat) (t r : Int) (ok : Bool) (h0 : 0 ≤ t) (h1 : t ≤ 10000000) (h : fixF g k t = some (r, ok)) : 0 ≤ r ∧ r ≤ 10000000 := by
  cases ok
  · have : r = 0 := fixF_false g k t r h
    omega
  · have := fixF_bounds g hg k t r h0 h1 h
    exact ⟨this.1, this.2.1⟩
theorem lit55 (w : World) (x : S55) : Kd.R k55 55 (w.alloc (.cells #[.int .i64 x.f0, .int .i64 x.f1, .int .i64 x.f2, .int .i64 x.f3] 55)) w.heap.size (fun _ => True) (.slice (some ⟨w.heap.size, 0, none⟩) 1 1) [x] :=
  ⟨fun _ _ => trivial, OwnRow.lit (size := 4) w w.heap.size (inner := [.int .i64 x.f0, .int .i64 x.f1, .int .i64 x.f2, .int .i64 x.f3]) (Reps.c4 (k55_mkM _ _ _ x) (Reps.none _ _)) (Nat.le_refl _) (by simp)⟩
set_option maxHeartbeats 4000000 in
set_option maxRecDepth 100000 in
theorem bus_delay.calls (k : Nat) (x : S55) (A1 A2 : Option Addr) (c1 c2 : Nat) (win lose : List S55) (r : Int) (ok : Bool) (w : World) (hr1 : Kd.C k55 w A1 win.length win) (hc1 : win.length ≤ c1) (hr2 : Kd.C k55 w A2 lose.length lose) (hc2 : lose.length ≤ c2)
    (hx : okM x = true) (hw : ∀ i, i < win.length → okM (rd_T55 win (i : Int)) = true) (hl : ∀ i, i < lose.length → okM (rd_T55 lose (i : Int)) = true) (hn : win.length ≤ 8) (hn2 : lose.length ≤ 8) (h : delayF k x win lose = some (r, ok)) :
    Calls Tryd.prog 67 #[.agg #[.int .i64 x.f0, .int .i64 x.f1, .int .i64 x.f2, .int .i64 x.f3], .slice A1 win.length c1, .slice A2 lose.length c2] w fun e w' => e = .returned (.tuple #[.int .i64 r, .bool ok]) ∧ Below w.heap.size w w' := by
  have hu55 := Tryd.underlying55; (obtain ⟨c, hc, h⟩ := oB h); (obtain ⟨⟨s1, s2⟩, hs, hc⟩ := oB hc); (obtain ⟨n1, hn1, hc⟩ := oB hc); (obtain ⟨⟨u1, u2⟩, hu, hc⟩ := oB hc); have HS := aM hs; have HN := aM hn1; have HU := aM hu; have HC := aM hc; have HX := aM hx; have HWN := aM hw; have HLO := aM hl; (have HR1 := aM (⟨hr1, hc1⟩ : _ ∧ _)); (have HR2 := aM (⟨hr2, hc2⟩ : _ ∧ _)); (have HB2 : Aside0 (Below w.heap.size w ((w.alloc (.cells #[.int .i64 x.f0, .int .i64 x.f1, .int .i64 x.f2, .int .i64 x.f3] 55)).alloc (.cells #[.slice A1 win.length c1] 46))) := ⟨below_alloc (below_alloc (Below.refl _ _) _) _⟩); (have HB3 : Aside0 (Below w.heap.size w (((w.alloc (.cells #[.int .i64 x.f0, .int .i64 x.f1, .int .i64 x.f2, .int .i64 x.f3] 55)).alloc (.cells #[.slice A1 win.length c1] 46)).alloc (.cells #[.int .i64 x.f0, .int .i64 x.f1, .int .i64 x.f2, .int .i64 x.f3] 55))) := ⟨below_alloc (below_alloc (below_alloc (Below.refl _ _) _) _) _⟩); (have e1 : (w.alloc (.cells #[.int .i64 x.f0, .int .i64 x.f1, .int .i64 x.f2, .int .i64 x.f3] 55)).heap.size = w.heap.size + 1 := World.size_alloc w _); (have e2 : ((w.alloc (.cells #[.int .i64 x.f0, .int .i64 x.f1, .int .i64 x.f2, .int .i64 x.f3] 55)).alloc (.cells #[.slice A1 win.length c1] 46)).heap.size = w.heap.size + 1 + 1 := by rw [World.size_alloc, e1])
  have HLIT : Aside0 (Kd.R k55 55 (((w.alloc (.cells #[.int .i64 x.f0, .int .i64 x.f1, .int .i64 x.f2, .int .i64 x.f3] 55)).alloc (.cells #[.slice A1 win.length c1] 46)).alloc (.cells #[.int .i64 x.f0, .int .i64 x.f1, .int .i64 x.f2, .int .i64 x.f3] 55)) w.heap.size (fun _ => True) (.slice (some ⟨w.heap.size + 1 + 1, 0, none⟩) 1 1) [x]) := ⟨by
    have := Kd.R_lower (lit55 ((w.alloc (.cells #[.int .i64 x.f0, .int .i64 x.f1, .int .i64 x.f2, .int .i64 x.f3] 55)).alloc (.cells #[.slice A1 win.length c1] 46)) x) (Nat.le_trans (Nat.le_add_right _ 2) (Nat.le_of_eq e2.symm))
    rw [e2] at this
    exact this⟩
  (have HBM : Aside0 ((((w.alloc (.cells #[.int .i64 x.f0, .int .i64 x.f1, .int .i64 x.f2, .int .i64 x.f3] 55)).alloc (.cells #[.slice A1 win.length c1] 46)).alloc (.cells #[.int .i64 x.f0, .int .i64 x.f1, .int .i64 x.f2, .int .i64 x.f3] 55)).heap[w.heap.size]? = some (.cells #[.int .i64 x.f0, .int .i64 x.f1, .int .i64 x.f2, .int .i64 x.f3] 55 (0, 0))) := ⟨blk_alloc (blk_alloc (blk_new w _) _) _⟩); (have HBV : Aside0 ((((w.alloc (.cells #[.int .i64 x.f0, .int .i64 x.f1, .int .i64 x.f2, .int .i64 x.f3] 55)).alloc (.cells #[.slice A1 win.length c1] 46)).alloc (.cells #[.int .i64 x.f0, .int .i64 x.f1, .int .i64 x.f2, .int .i64 x.f3] 55)).heap[w.heap.size + 1]? = some (.cells #[.slice A1 win.length c1] 46 (0, 0))) := ⟨blk_alloc (e1 ▸ blk_new (w.alloc (.cells #[.int .i64 x.f0, .int .i64 x.f1, .int .i64 x.f2, .int .i64 x.f3] 55)) _) _⟩); clear hs hn1 hu hc hx hw hl hr1 hc1 hr2 hc2 e1 e2; by_cases hc0 : 0 ≤ c
  · rw [if_pos hc0] at h; (obtain ⟨rfl, rfl⟩ := Prod.mk.inj (sI h)); (have t1 : decide (0 ≤ c) = true := dT hc0); clear h hc0; (go_enter Tryd.func67, Tryd.ntmps67)
    go_wp2_with (first
      | ((with_reducible refine gate_builtin (b := .append) (xs := #[.tmp 18, .tmp 19]) rfl ?_); at_builtin; refine Kd.R_append_rows k55 (w0 := w) w.heap.size rfl (.tmp 18) (.tmp 19) 46 55 (.agg #[(.int .i64 0), (.int .i64 0), (.int .i64 0), (.int .i64 0)]) 32 rfl Tryd.underlying46 info55 rfl z10 z3 (.slice (some ⟨w.heap.size + 1 + 1, 0, none⟩) 1 1) [x] win _ _ _ (fun _ => True) (fun _ => False) rfl rfl ?aO ?aR (fun _ _ h => h) (fun _ h => h.elim) ?aF ?aB ?aS ?aL ?_; (case aR => exact Kd.C_below HR1.out.1 HB3.out); (case aB => exact HB3.out); (case aF => exact (fun _ _ => trivial)); (case aO => exact HLIT.out); (case aS => exact HB3.out.size); (case aL => simp only [List.length_cons, List.length_nil]; omega); intro v1 w4 ho hb hg hat; obtain ⟨Aa, ca, rfl, hca, hra⟩ := Kd.R_reads ho; have B4 := aM hb; have RA := aM (⟨hra, hca⟩ : _ ∧ _); have BM4 := aM (blk_grown HBM.out hg (by simp [Value.ownBlock]; try omega)); have BV4 := aM (blk_grown HBV.out hg (by simp [Value.ownBlock]; try omega)); clear ho hb hg hat hra hca)
      | (go_at_call 69; (with_reducible refine (bus_share.callsN k Aa ca (win.length + 1) ([x] ++ win) s1 s2 w4 ?q1 ?q2 ?q3 HS.out).mono ?_); (case q1 => exact RA.out.1); (case q2 => exact RA.out.2); (case q3 => simp); rintro e w5 ⟨g5, rfl, sz5, b5, r5⟩; have B5 := aM b5; have R5 := aM r5; clear sz5 b5 r5)
      | (go_at_call 70; (with_reducible refine (big_NewInt.calls2 k 1 n1 w5 (w5.alloc (.cells #[.bool false, .slice none 0 0, .slice none 0 0] 123)) z10 HN.out z10 (below_alloc (Below.refl _ _) _)).mono ?_); rintro e w6 ⟨g6, rfl, s6, b6, B6, f6⟩; replace b6 := aM b6; replace B6 := aM B6; replace f6 := aM f6; clear s6)
      | (go_at_call 70; (with_reducible refine (big_NewInt.calls2 k 1 n1 w5 w6 z10 HN.out z10 B6.out).mono ?_); rintro e w7 ⟨g7, rfl, s7, b7, B7, f7⟩; replace b7 := aM b7; replace B7 := aM B7; replace f7 := aM f7; clear s7)
      | (go_at_call 96; refine (big_Rat_SetFrac.calls (divG k) (divG_ok k) k k w5.heap.size g6 g7 (.bool false) (.slice none 0 0) (.slice none 0 0) n1 n1 u1 u2 _ (((Z3.new w5).below b6.out).below b7.out) (f6.out.below b7.out).int f7.out.int HU.out).mono ?_; rintro e w8 ⟨rfl, o8, r8⟩; have B8 : Aside0 (Below w5.heap.size w5 w8) := ⟨o8.below B7.out (Nat.le_refl _)⟩; replace r8 := aM r8; clear o8)
      | (go_at_call 95; refine (big_Rat_Cmp.calls k g5 w5.heap.size s1 s2 u1 u2 c _ (R5.out.below B8.out) r8.out HC.out).mono ?_; rintro e w9 ⟨rfl, b9⟩; have B9 := aM (below_step B8.out b9); clear b9))
    go_ret2; (exact ⟨rfl, below_step B4.out (below_step B5.out B9.out)⟩)
  rw [if_neg hc0] at h; (obtain ⟨⟨busy, bk⟩, hbz, h⟩ := oB h); (dsimp only at h); have HBZ := aM hbz; have HH := aM h; (have t1 : decide (0 ≤ c) = false := dF hc0); clear h hc0 hbz; (go_enter Tryd.func67, Tryd.ntmps67)
  go_wp2_with (first
    | ((with_reducible refine gate_builtin (b := .append) (xs := #[.tmp 18, .tmp 19]) rfl ?_); at_builtin; refine Kd.R_append_rows k55 (w0 := w) w.heap.size rfl (.tmp 18) (.tmp 19) 46 55 (.agg #[(.int .i64 0), (.int .i64 0), (.int .i64 0), (.int .i64 0)]) 32 rfl Tryd.underlying46 info55 rfl z10 z3 (.slice (some ⟨w.heap.size + 1 + 1, 0, none⟩) 1 1) [x] win _ _ _ (fun _ => True) (fun _ => False) rfl rfl ?aO ?aR (fun _ _ h => h) (fun _ h => h.elim) ?aF ?aB ?aS ?aL ?_; (case aR => exact Kd.C_below HR1.out.1 HB3.out); (case aB => exact HB3.out); (case aF => exact (fun _ _ => trivial)); (case aO => exact HLIT.out); (case aS => exact HB3.out.size); (case aL => simp only [List.length_cons, List.length_nil]; omega); intro v1 w4 ho hb hg hat; obtain ⟨Aa, ca, rfl, hca, hra⟩ := Kd.R_reads ho; have B4 := aM hb; have RA := aM (⟨hra, hca⟩ : _ ∧ _); have BM4 := aM (blk_grown HBM.out hg (by simp [Value.ownBlock]; try omega)); have BV4 := aM (blk_grown HBV.out hg (by simp [Value.ownBlock]; try omega)); clear ho hb hg hat hra hca)
    | (go_at_call 69; (with_reducible refine (bus_share.callsN k Aa ca (win.length + 1) ([x] ++ win) s1 s2 w4 ?q1 ?q2 ?q3 HS.out).mono ?_); (case q1 => exact RA.out.1); (case q2 => exact RA.out.2); (case q3 => simp); rintro e w5 ⟨g5, rfl, sz5, b5, r5⟩; have B5 := aM b5; have R5 := aM r5; clear sz5 b5 r5)
    | (go_at_call 70; (with_reducible refine (big_NewInt.calls2 k 1 n1 w5 (w5.alloc (.cells #[.bool false, .slice none 0 0, .slice none 0 0] 123)) z10 HN.out z10 (below_alloc (Below.refl _ _) _)).mono ?_); rintro e w6 ⟨g6, rfl, s6, b6, B6, f6⟩; replace b6 := aM b6; replace B6 := aM B6; replace f6 := aM f6; clear s6)
    | (go_at_call 70; (with_reducible refine (big_NewInt.calls2 k 1 n1 w5 w6 z10 HN.out z10 B6.out).mono ?_); rintro e w7 ⟨g7, rfl, s7, b7, B7, f7⟩; replace b7 := aM b7; replace B7 := aM B7; replace f7 := aM f7; clear s7)
    | (go_at_call 96; refine (big_Rat_SetFrac.calls (divG k) (divG_ok k) k k w5.heap.size g6 g7 (.bool false) (.slice none 0 0) (.slice none 0 0) n1 n1 u1 u2 _ (((Z3.new w5).below b6.out).below b7.out) (f6.out.below b7.out).int f7.out.int HU.out).mono ?_; rintro e w8 ⟨rfl, o8, r8⟩; have B8 : Aside0 (Below w5.heap.size w5 w8) := ⟨o8.below B7.out (Nat.le_refl _)⟩; replace r8 := aM r8; clear o8)
    | (go_at_call 95; refine (big_Rat_Cmp.calls k g5 w5.heap.size s1 s2 u1 u2 c _ (R5.out.below B8.out) r8.out HC.out).mono ?_; rintro e w9 ⟨rfl, b9⟩; have B9 := aM (below_step B8.out b9); clear b9))
  (have B9w : Aside0 (Below w.heap.size w w9) := ⟨below_step B4.out (below_step B5.out B9.out)⟩); (have BM9 : Aside0 (w9.heap[w.heap.size]? = some (.cells #[.int .i64 x.f0, .int .i64 x.f1, .int .i64 x.f2, .int .i64 x.f3] 55 (0, 0))) := ⟨blk_below BM4.out (below_step B5.out B9.out)⟩); (have BV9 : Aside0 (w9.heap[w.heap.size + 1]? = some (.cells #[.slice A1 win.length c1] 46 (0, 0))) := ⟨blk_below BV4.out (below_step B5.out B9.out)⟩); (have L0 : Aside0 ((w9.alloc (.cells #[.int .i64 0] 3)).heap[w9.heap.size]? = some (.cells #[.int .i64 (maxTo lose 0)] 3 (0, 0))) := ⟨blk_new _ _⟩); (have BL0 : Aside0 (Below w9.heap.size w9 (w9.alloc (.cells #[.int .i64 0] 3))) := ⟨below_alloc (Below.refl _ _) _⟩); clear B4 B5 B9 RA BM4 BV4 R5 b6 B6 f6 b7 B7 f7 B8 r8 HLIT HBM HBV HB2 HB3; (have hlo : (lose.length : Int) ≤ 9223372036854775807 := by omega); (go_loopg [30] lose.length (fun gk v30 w' => ∃ i : Nat, v30 = .int .i64 (i : Int) ∧ i ≤ lose.length ∧ Aside0 (gk = lose.length - i) ∧ Aside0 (w'.heap[w9.heap.size]? = some (.cells #[.int .i64 (maxTo lose i)] 3 (0, 0))) ∧ Aside0 (Below w9.heap.size w9 w'))); (case atStart => exact ⟨0, rfl, by omega, ⟨rfl⟩, L0, BL0⟩)
  case round =>
   clear L0 BL0; obtain ⟨i, rfl, hi, HK, L0, BL0⟩ := hrel; by_cases hlt : i < lose.length
   · (have HO := aM (HLO.out i hlt)); (obtain ⟨ad, e0, hx0, hx1, hx2, hx3⟩ := at_T55 (Kd.C_below (Kd.C_below HR2.out.1 B9w.out) BL0.out) (i : Int) z3 z3); cases e0; simp only [Int.toNat_natCast] at hx0 hx1 hx2 hx3; (have HMX : Aside0 (maxTo lose (i + 1) = max (maxTo lose i) (bitsM (rd_T55 lose (i : Int)))) := ⟨rfl⟩); (generalize rd_T55 lose (i : Int) = o at HO HMX hx0 hx1 hx2 hx3); (generalize maxTo lose i = mx at HMX L0 ⊢); (go_upto_region 7 with (fail)); (have M0 : (wr.alloc (.cells #[.int .i64 o.f0, .int .i64 o.f1, .int .i64 o.f2, .int .i64 o.f3] 55)).heap[wr.heap.size]? = some (.cells #[.int .i64 o.f0, .int .i64 o.f1, .int .i64 o.f2, .int .i64 o.f3] 55 (0, 0)) := blk_new _ _); (have L1 : Aside0 ((wr.alloc (.cells #[.int .i64 o.f0, .int .i64 o.f1, .int .i64 o.f2, .int .i64 o.f3] 55)).heap[w9.heap.size]? = some (.cells #[.int .i64 mx] 3 (0, 0))) := ⟨blk_alloc L0.out _⟩); (have BL1 : Aside0 (Below w9.heap.size w9 (wr.alloc (.cells #[.int .i64 o.f0, .int .i64 o.f1, .int .i64 o.f2, .int .i64 o.f3] 55))) := ⟨below_alloc BL0.out _⟩); clear hx0 hx1 hx2 hx3 L0 BL0; (generalize wr.alloc (.cells #[.int .i64 o.f0, .int .i64 o.f1, .int .i64 o.f2, .int .i64 o.f3] 55) = W at M0 L1 BL1 ⊢); (generalize wr.heap.size = g at M0 ⊢); (have hg0 : W.cell? ⟨g, 0, none⟩ = some (.int .i64 o.f0) := (blk_cell M0 0).trans rfl); (have hg1 : W.cell? ⟨g, 1, none⟩ = some (.int .i64 o.f1) := (blk_cell M0 1).trans rfl); (have hg2 : W.cell? ⟨g, 2, none⟩ = some (.int .i64 o.f2) := (blk_cell M0 2).trans rfl); (have hg3 : W.cell? ⟨g, 3, none⟩ = some (.int .i64 o.f3) := (blk_cell M0 3).trans rfl)
     (have hl0 : W.cell? ⟨w9.heap.size, 0, none⟩ = some (.int .i64 mx) := (blk_cell L1.out 0).trans rfl); (have hlf := blk_frozen L1.out 0); (have HS0 : Aside0 (∀ W1, Below W.heap.size W W1 → (fun w1 => w1.cell? ⟨w9.heap.size, 0, none⟩ = some (.int .i64 mx) ∧ w1.frozen? ⟨w9.heap.size, 0, none⟩ = false ∧ w1.cell? ⟨g, 0, none⟩ = some (.int .i64 o.f0) ∧ w1.cell? ⟨g, 1, none⟩ = some (.int .i64 o.f1) ∧ w1.cell? ⟨g, 2, none⟩ = some (.int .i64 o.f2) ∧ w1.cell? ⟨g, 3, none⟩ = some (.int .i64 o.f3)) W1) := ⟨fun W1 hb => ⟨(blk_cell (blk_below L1.out hb) 0).trans rfl, blk_frozen (blk_below L1.out hb) 0, (blk_cell (blk_below M0 hb) 0).trans rfl, (blk_cell (blk_below M0 hb) 1).trans rfl, (blk_cell (blk_below M0 hb) 2).trans rfl, (blk_cell (blk_below M0 hb) 3).trans rfl⟩⟩); clear M0
     go_region_with (first
       | (go_at_call 87; refine (bits_callsM o HO.out _).mono ?_; rintro e w3 ⟨rfl, b3⟩; have B3 : Aside0 (Below W.heap.size W w3) := ⟨below_step (by repeat (first | exact Below.refl _ _ | exact B3.out | apply below_alloc | apply pw_below_drewN | apply below_drew1)) b3⟩; clear b3; have hl3 : w3.cell? ⟨w9.heap.size, 0, none⟩ = some (.int .i64 mx) := (HS0.out _ B3.out).1; have hlf3 : w3.frozen? ⟨w9.heap.size, 0, none⟩ = false := (HS0.out _ B3.out).2.1))
     all_goals
       have L3 : Aside0 (w3.heap[w9.heap.size]? = some (.cells #[.int .i64 mx] 3 (0, 0))) := ⟨blk_below L1.out B3.out⟩
       have BL3 : Aside0 (Below w9.heap.size w9 w3) := ⟨below_step BL1.out B3.out⟩
       clear hg0 hg1 hg2 hg3 hl0 hlf HS0 L1 BL1 hl3 hlf3
       go_wp2
       all_goals
         go_roundg (lose.length - (i + 1))
         case measure => have := HK.out; omega
         case rel => exact ⟨i + 1, by go_num, by omega, ⟨rfl⟩, ⟨by rw [HMX.out]; (first | rw [Int.max_eq_right z3] | rw [Int.max_eq_left z3]); exact (blk_set L3.out 0 _).trans rfl⟩, ⟨below_set BL3.out (Nat.le_refl _)⟩⟩
   (obtain rfl : i = lose.length := by omega); (have hbl : 0 ≤ maxTo lose lose.length ∧ maxTo lose lose.length ≤ 135 := maxTo_bounds lose HLO.out lose.length (Nat.le_refl _))
   have HE0 : Aside0 (EnvG (wr.alloc (.cells #[.func (.func 97) #[] #[]] 125)) w9.heap.size wr.heap.size w.heap.size (w.heap.size + 1) (maxTo lose lose.length) x A1 c1 win) := ⟨by
     have hB := below_alloc BL0.out (.cells #[.func (.func 97) #[] #[]] 125)
     have h1 := blk_alloc L0.out (.cells #[.func (.func 97) #[] #[]] 125)
     have h2 := blk_below BM9.out hB
     have h3 := blk_below BV9.out hB
     exact ⟨(blk_cell h1 0).trans rfl, (blk_cell (blk_new wr _) 0).trans rfl, (blk_cell h2 0).trans rfl, (blk_cell h2 1).trans rfl, (blk_cell h2 2).trans rfl, (blk_cell h2 3).trans rfl, (blk_cell h3 0).trans rfl, Kd.C_below (Kd.C_below HR1.out.1 B9w.out) hB, HR1.out.2⟩⟩
   (have BE0 : Aside0 (Below w.heap.size w (wr.alloc (.cells #[.func (.func 97) #[] #[]] 125))) := ⟨below_alloc (below_step B9w.out BL0.out) _⟩); (generalize maxTo lose lose.length = blk at hbl HE0 HBZ HH L0); clear BM9 BV9 B9w L0 BL0; (go_upto_region 10 with (fail)); (generalize w9.heap.size = gb at HE0 ⊢); (generalize wr.heap.size = gi at HE0 ⊢); (generalize wr.alloc (.cells #[.func (.func 97) #[] #[]] 125) = W at HE0 BE0 ⊢)
   cases bk with
   | false =>
    have h := HH.out; rw [if_pos rfl] at h; (obtain ⟨rfl, rfl⟩ := Prod.mk.inj (sI h)); clear h HH; (go_wp2_with (first | (go_at_call 98; refine (fixed99 k gb gi w.heap.size (w.heap.size + 1) blk x A1 c1 win 1 busy false _ HE0.out HX.out HWN.out hn hbl.1 hbl.2 z3 z3 HBZ.out).mono ?_; rintro e w10 ⟨rfl, b10⟩; replace b10 := aM b10))); go_ret2; (exact ⟨rfl, below_step BE0.out b10.out⟩)
   | true =>
    have h := HH.out; rw [if_neg (by simp)] at h; (have hbz := fixF_bounds _ (fun t h2 h3 => busyN_nonneg HX.out HWN.out hbl.1 h2 h3) k 1 busy z3 z3 HBZ.out); (have HBU := aM (⟨hbz.1, hbz.2.1⟩ : _ ∧ _)); (have hin := inst_bounds HX.out hbz.1 hbz.2.1); have HW0 := aM h; clear h HH hbz
    go_wp2_with (first
    | (go_at_call 98; refine (fixed99 k gb gi w.heap.size (w.heap.size + 1) blk x A1 c1 win 1 busy true _ HE0.out HX.out HWN.out hn hbl.1 hbl.2 z3 z3 HBZ.out).mono ?_; rintro e w10 ⟨rfl, b10⟩; have HE10 := aM (HE0.out.below b10); have B10 := aM (below_step BE0.out b10); clear b10; obtain ⟨hcb, hci, hc0, hc1, hc2, hc3, -⟩ := HE10.out)
    | (go_at_call 97; refine (f97_any x busy _ HX.out HBU.out.1 HBU.out.2).mono ?_; rintro e w11 ⟨rfl, b11⟩; have HE11 := aM (HE10.out.below b11); have B11 := aM (below_step B10.out b11); clear b11 hcb hci hc0 hc1 hc2 hc3 HE10 B10))
    clear HE0 BE0 HBZ; (generalize inst x busy = N at hin HW0 ⊢); (obtain ⟨N, rfl⟩ := Int.eq_ofNat_of_zero_le hin.1); (have HWT : Aside0 (waitTo k blk x win N 0 0 0 = some (r, ok)) := ⟨by have := HW0.out; simpa using this⟩); clear HW0; (have hN : (N : Int) ≤ 10200000 := hin.2); clear hin; (go_loopg [14, 15, 50] N (fun gk v14 v15 v50 w' => ∃ (q : Nat) (worst v : Int), v14 = .int .i64 worst ∧ v15 = .int .i64 v ∧ v50 = .int .i64 (q : Int) ∧ q ≤ N ∧ 0 ≤ v ∧ v ≤ 10000000 ∧ 0 ≤ worst ∧ worst ≤ 10000000 ∧ Aside0 (gk = N - q) ∧ Aside0 (waitTo k blk x win (N - q) (q : Int) v worst = some (r, ok)) ∧ Aside0 (EnvG w' gb gi w.heap.size (w.heap.size + 1) blk x A1 c1 win) ∧ Aside0 (Below w.heap.size w w'))); (case atStart => exact ⟨0, 0, 0, rfl, rfl, rfl, by omega, by omega, by omega, by omega, by omega, ⟨rfl⟩, HWT, HE11, B11⟩)
    case round =>
     clear HWT HE11 B11; obtain ⟨q, worst, v, rfl, rfl, rfl, hq, hv0, hv1, hw0, hw1, HK, HWT, HE, HB⟩ := hrel; by_cases hlt : q < N; rotate_left
     · (obtain rfl : q = N := by omega); have h := HWT.out; rw [Nat.sub_self, waitTo] at h; (obtain ⟨rfl, rfl⟩ := Prod.mk.inj (sI h)); clear h HWT; go_wp2; go_ret2; (exact ⟨rfl, HB.out⟩)
     have h := HWT.out; (rw [show N - q = (N - (q + 1)) + 1 by omega, waitTo] at h); (obtain ⟨⟨s, sb⟩, hsb, h⟩ := oB h); (dsimp only at h); (obtain ⟨_, _, _, _, xb1, xb2, xb3, xb4⟩ := okM_bounds HX.out); (have hbb := bitsM_bounds HX.out); (have hs01 : 0 ≤ s ∧ s ≤ 10000000 := fixF_range _ (fun t h2 h3 => waitN_nonneg HX.out HWN.out hbl.1 (by omega : (0 : Int) ≤ (q : Int)) z3 h2 h3) k v s sb hv0 hv1 hsb)
     have hqp : 0 ≤ (q : Int) * x.f2 ∧ (q : Int) * x.f2 ≤ 1020000000000 := ⟨Int.mul_nonneg z3 z3, by
       have : (q : Int) * x.f2 ≤ 10200000 * 100000 := Int.mul_le_mul z3 xb2 z3 z3
       omega⟩
     (have e1 : IntKind.i64.wrap (x.f3 + s) = x.f3 + s := IntWalk.i64_in _ z3); (have e2 : IntKind.i64.wrap ((q : Int) * x.f2) = (q : Int) * x.f2 := IntWalk.i64_in _ z3); (have e3 : IntKind.i64.wrap (x.f3 + s - (q : Int) * x.f2) = x.f3 + s - (q : Int) * x.f2 := IntWalk.i64_in _ z3); (have e4 : IntKind.i64.wrap (x.f3 + s - (q : Int) * x.f2 + bitsM x) = x.f3 + s - (q : Int) * x.f2 + bitsM x := IntWalk.i64_in _ z3); (have EE := aM (⟨e1, e2, e3, e4⟩ : _ ∧ _ ∧ _ ∧ _)); (have HNW : Aside0 (0 ≤ max worst (x.f3 + s - (q : Int) * x.f2 + bitsM x) ∧ (max worst (x.f3 + s - (q : Int) * x.f2 + bitsM x) = if worst < x.f3 + s - (q : Int) * x.f2 + bitsM x then x.f3 + s - (q : Int) * x.f2 + bitsM x else worst)) := ⟨by omega, by split <;> omega⟩); have HSB := aM hsb; have HH := aM h; have HS01 := aM hs01; (have hq2 : (q : Int) ≤ 10200000 := by omega); clear h hsb hs01 e1 e2 e3 e4 hqp hbb xb1 xb2 xb3 xb4 HWT; (go_upto_region 18 with (fail)); (have HE2 : Aside0 (EnvG (wr.alloc (.cells #[.int .i64 (q : Int)] 3)) gb gi w.heap.size (w.heap.size + 1) blk x A1 c1 win) := ⟨HE.out.below (below_alloc (Below.refl _ _) _)⟩); (have HB2 : Aside0 (Below w.heap.size w (wr.alloc (.cells #[.int .i64 (q : Int)] 3))) := ⟨below_alloc HB.out _⟩); (have hqc : (wr.alloc (.cells #[.int .i64 (q : Int)] 3)).cell? ⟨wr.heap.size, 0, none⟩ = some (.int .i64 (q : Int)) := (blk_cell (blk_new wr _) 0).trans rfl); have HQC := aM hqc; clear HE HB hqc; (generalize wr.alloc (.cells #[.int .i64 (q : Int)] 3) = W at HE2 HB2 HQC ⊢)
     (generalize wr.heap.size = gq at HQC ⊢); (go_upto_region 19 with (first | (go_at_call 98; refine (fixed100 k gb gi w.heap.size (w.heap.size + 1) gq (q : Int) blk x A1 c1 win v s sb _ HE2.out HQC.out z3 hq2 HX.out HWN.out hn hbl.1 hbl.2 hv0 hv1 HSB.out).mono ?_; rintro e w12 ⟨rfl, b12⟩; have HE3 := aM (HE2.out.below b12); have HB3 := aM (below_step HB2.out b12); have HQ3 := aM (keepc b12 HQC.out); clear b12))); clear HE2 HB2 HQC HSB; have hq0 := HQ3.out; obtain ⟨-, -, hc0, hc1, hc2, hc3, -⟩ := HE3.out; (have HS0 : Aside0 (∀ W1, Below w12.heap.size w12 W1 → (fun w1 => w1.cell? ⟨gq, 0, none⟩ = some (.int .i64 (q : Int)) ∧ w1.cell? ⟨w.heap.size, 0, none⟩ = some (.int .i64 x.f0) ∧ w1.cell? ⟨w.heap.size, 1, none⟩ = some (.int .i64 x.f1) ∧ w1.cell? ⟨w.heap.size, 2, none⟩ = some (.int .i64 x.f2) ∧ w1.cell? ⟨w.heap.size, 3, none⟩ = some (.int .i64 x.f3)) W1) := ⟨fun W1 hb => ⟨keepc hb HQ3.out, (HE3.out.below hb).2.2.1, (HE3.out.below hb).2.2.2.1, (HE3.out.below hb).2.2.2.2.1, (HE3.out.below hb).2.2.2.2.2.1⟩⟩); by_cases hm : worst < x.f3 + s - (q : Int) * x.f2 + bitsM x; rotate_left
     · (have hmd := dF hm); have h := HH.out; (have hmx : max worst (x.f3 + s - (q : Int) * x.f2 + bitsM x) = worst := by omega); rw [hmx] at h; (have HNW2 : Aside0 (0 ≤ worst) := ⟨by have := HNW.out.1; rw [hmx] at this; exact this⟩); have HH2 := aM h; clear h hmx HH HNW; obtain ⟨e1, e2, e3, e4⟩ := EE.out
       go_region_held3 (fun w1 => w1.cell? ⟨gq, 0, none⟩ = some (.int .i64 (q : Int)) ∧ w1.cell? ⟨w.heap.size, 0, none⟩ = some (.int .i64 x.f0) ∧ w1.cell? ⟨w.heap.size, 1, none⟩ = some (.int .i64 x.f1) ∧ w1.cell? ⟨w.heap.size, 2, none⟩ = some (.int .i64 x.f2) ∧ w1.cell? ⟨w.heap.size, 3, none⟩ = some (.int .i64 x.f3)) (first | exact ⟨hq0, hc0, hc1, hc2, hc3⟩ | exact HS0.out _ (by repeat (first | exact Below.refl _ _ | exact B13.out | apply below_alloc | apply pw_below_drewN | apply below_drew1)) | go_keep)
         (first
         | (go_at_call 87; refine (bits_callsM x HX.out _).mono ?_; rintro e w13 ⟨rfl, b13⟩; have B13 : Aside0 (Below w12.heap.size w12 w13) := ⟨below_step (by repeat (first | exact Below.refl _ _ | exact B13.out | apply below_alloc | apply pw_below_drewN | apply below_drew1)) b13⟩; clear b13))
       (rename_i hHeld); clear hHeld hq0 hc0 hc1 hc2 hc3 HS0 e1 e2 e3 e4 EE; (have HE4 : Aside0 (EnvG w13 gb gi w.heap.size (w.heap.size + 1) blk x A1 c1 win) := ⟨HE3.out.below B13.out⟩); (have HB4 : Aside0 (Below w.heap.size w w13) := ⟨below_step HB3.out B13.out⟩)
       cases sb with
       | false =>
        have h := HH2.out; rw [if_pos (.inl rfl)] at h; (obtain ⟨rfl, rfl⟩ := Prod.mk.inj (sI h)); clear h HH2; go_wp2; go_ret2; (exact ⟨rfl, HB4.out⟩)
       | true =>
        have h := HH2.out; by_cases hg : 10000000 < worst
        · rw [if_pos (.inr hg)] at h; (obtain ⟨rfl, rfl⟩ := Prod.mk.inj (sI h)); (have t2 := dT hg); clear h HH2 hg; go_wp2; go_ret2; (exact ⟨rfl, HB4.out⟩)
        rw [if_neg (by simp; omega)] at h; (have t2 := dF hg); have HH3 := aM h; clear h HH2; go_wp2; (go_roundg (N - (q + 1))); (case measure => have := HK.out; omega); (case rel => exact ⟨q + 1, worst, s, by first | rfl | simp, rfl, by go_num, by omega, HS01.out.1, HS01.out.2, HNW2.out, by omega, ⟨rfl⟩, ⟨by rw [Int.natCast_add]; exact HH3.out⟩, HE4, HB4⟩)
     (have hmd := dT hm); have h := HH.out; (have hmx : max worst (x.f3 + s - (q : Int) * x.f2 + bitsM x) = (x.f3 + s - (q : Int) * x.f2 + bitsM x) := by omega); rw [hmx] at h; (have HNW2 : Aside0 (0 ≤ (x.f3 + s - (q : Int) * x.f2 + bitsM x)) := ⟨by have := HNW.out.1; rw [hmx] at this; exact this⟩); have HH2 := aM h; clear h hmx HH HNW; obtain ⟨e1, e2, e3, e4⟩ := EE.out
     go_region_held3 (fun w1 => w1.cell? ⟨gq, 0, none⟩ = some (.int .i64 (q : Int)) ∧ w1.cell? ⟨w.heap.size, 0, none⟩ = some (.int .i64 x.f0) ∧ w1.cell? ⟨w.heap.size, 1, none⟩ = some (.int .i64 x.f1) ∧ w1.cell? ⟨w.heap.size, 2, none⟩ = some (.int .i64 x.f2) ∧ w1.cell? ⟨w.heap.size, 3, none⟩ = some (.int .i64 x.f3)) (first | exact ⟨hq0, hc0, hc1, hc2, hc3⟩ | exact HS0.out _ (by repeat (first | exact Below.refl _ _ | exact B13.out | apply below_alloc | apply pw_below_drewN | apply below_drew1)) | go_keep)
       (first
       | (go_at_call 87; refine (bits_callsM x HX.out _).mono ?_; rintro e w13 ⟨rfl, b13⟩; have B13 : Aside0 (Below w12.heap.size w12 w13) := ⟨below_step (by repeat (first | exact Below.refl _ _ | exact B13.out | apply below_alloc | apply pw_below_drewN | apply below_drew1)) b13⟩; clear b13))
     (rename_i hHeld); clear hHeld hq0 hc0 hc1 hc2 hc3 HS0 e1 e2 e3 e4 EE; (have HE4 : Aside0 (EnvG w13 gb gi w.heap.size (w.heap.size + 1) blk x A1 c1 win) := ⟨HE3.out.below B13.out⟩); (have HB4 : Aside0 (Below w.heap.size w w13) := ⟨below_step HB3.out B13.out⟩)
     cases sb with
     | false =>
      have h := HH2.out; rw [if_pos (.inl rfl)] at h; (obtain ⟨rfl, rfl⟩ := Prod.mk.inj (sI h)); clear h HH2; go_wp2; go_ret2; (exact ⟨rfl, HB4.out⟩)
     | true =>
      have h := HH2.out; by_cases hg : 10000000 < (x.f3 + s - (q : Int) * x.f2 + bitsM x)
      · rw [if_pos (.inr hg)] at h; (obtain ⟨rfl, rfl⟩ := Prod.mk.inj (sI h)); (have t2 := dT hg); clear h HH2 hg; go_wp2; go_ret2; (exact ⟨rfl, HB4.out⟩)
      rw [if_neg (by simp; omega)] at h; (have t2 := dF hg); have HH3 := aM h; clear h HH2; go_wp2; (go_roundg (N - (q + 1))); (case measure => have := HK.out; omega); (case rel => exact ⟨q + 1, (x.f3 + s - (q : Int) * x.f2 + bitsM x), s, by first | rfl | simp, rfl, by go_num, by omega, HS01.out.1, HS01.out.2, HNW2.out, by omega, ⟨rfl⟩, ⟨by rw [Int.natCast_add]; exact HH3.out⟩, HE4, HB4⟩)
end Go.Proofs.YtbanemecfobonaaDoor.B
end
section
namespace Go.Proofs.YtbanemecfobonaaDoor.B
open Go.RowKit Go.Proofs.YtbanemecfobonaaDoorW.PrintWords Go.Proofs.YtbanemecfobonaaDoorW.PrintLast Go.Proofs.YtbanemecfobonaaDoorW.PrintMore
set_option linter.unusedVariables false
set_option linter.unusedSimpArgs false
def idxTo (l : List S55) (no : Int) : Nat → Nat → Int
  | 0, _ => -1
  | n + 1, i => if (rd_T55 l (i : Int)).f0 = no then (i : Int) else idxTo l no n (i + 1)
theorem idxTo_range (l : List S55) (no : Int) : ∀ n i, idxTo l no n i = -1 ∨ ((i : Int) ≤ idxTo l no n i ∧ idxTo l no n i < (i : Int) + n)
  | 0, i => .inl rfl
  | n + 1, i => by
    simp only [idxTo]
    split
    · right; omega
    · rcases idxTo_range l no n (i + 1) with h | h
      · exact .inl h
      · right; omega
def winTo (l : List S55) (no : Int) : Nat → List S55
  | 0 => []
  | i + 1 => if (rd_T55 l (i : Int)).f0 < no then winTo l no i ++ [rd_T55 l (i : Int)] else winTo l no i
def loseTo (l : List S55) (no : Int) : Nat → List S55
  | 0 => []
  | i + 1 => if no < (rd_T55 l (i : Int)).f0 then loseTo l no i ++ [rd_T55 l (i : Int)] else loseTo l no i
theorem winTo_len (l : List S55) (no : Int) : ∀ i, (winTo l no i).length ≤ i
  | 0 => Nat.le_refl _
  | i + 1 => by
    have := winTo_len l no i
    simp only [winTo]
    split
    · simp only [List.length_append, List.length_cons, List.length_nil]; omega
    · omega
theorem loseTo_len (l : List S55) (no : Int) : ∀ i, (loseTo l no i).length ≤ i
  | 0 => Nat.le_refl _
  | i + 1 => by
    have := loseTo_len l no i
    simp only [loseTo]
    split
    · simp only [List.length_append, List.length_cons, List.length_nil]; omega
    · omega
theorem rd_T55_snoc (l : List S55) (x : S55) (k : Nat) : rd_T55 (l ++ [x]) (k : Int) = if k = l.length then x else rd_T55 l (k : Int) := by
  show (l ++ [x]).getD k z55 = if k = l.length then x else l.getD k z55
  rw [List.getD_eq_getElem?_getD, List.getD_eq_getElem?_getD]
  by_cases h : k = l.length
  · subst h; simp
  · rw [if_neg h]
    by_cases h2 : k < l.length
    · rw [List.getElem?_append_left h2]
    · rw [List.getElem?_eq_none (by simp; omega), List.getElem?_eq_none z3]
theorem winTo_ok (l : List S55) (no : Int) (n : Nat) (h : ∀ i, i < n → okM (rd_T55 l (i : Int)) = true) : ∀ i, i ≤ n → ∀ k, k < (winTo l no i).length → okM (rd_T55 (winTo l no i) (k : Int)) = true
  | 0, _, k, hk => by simp [winTo] at hk
  | i + 1, hi, k, hk => by
    have ih := winTo_ok l no n h i z3
    simp only [winTo] at hk ⊢
    split at hk
    · rename_i hc
      rw [if_pos hc, rd_T55_snoc]
      split
      · exact h i z3
      · exact ih k (by simp only [List.length_append, List.length_cons, List.length_nil] at hk; omega)
    · rename_i hc
      rw [if_neg hc]; exact ih k hk
theorem loseTo_ok (l : List S55) (no : Int) (n : Nat) (h : ∀ i, i < n → okM (rd_T55 l (i : Int)) = true) : ∀ i, i ≤ n → ∀ k, k < (loseTo l no i).length → okM (rd_T55 (loseTo l no i) (k : Int)) = true
  | 0, _, k, hk => by simp [loseTo] at hk
  | i + 1, hi, k, hk => by
    have ih := loseTo_ok l no n h i z3
    simp only [loseTo] at hk ⊢
    split at hk
    · rename_i hc
      rw [if_pos hc, rd_T55_snoc]
      split
      · exact h i z3
      · exact ih k (by simp only [List.length_append, List.length_cons, List.length_nil] at hk; omega)
    · rename_i hc
      rw [if_neg hc]; exact ih k hk
theorem sentB_oks (l : List S55) (h : sentB l = true) : l.length ≤ 8 ∧ ∀ i, i < l.length → okM (rd_T55 l (i : Int)) = true := by
  simp only [sentB, Bool.and_eq_true, decide_eq_true_eq] at h
  refine ⟨h.2, fun i hi => ?_⟩
  cases ho : okM (rd_T55 l (i : Int))
  · have hb : sentTo l (i + 1) = false := by
      have hs1 : sentTo l (i + 1) = (sentTo l i && (okM (rd_T55 l (i : Int)) && !(nosM l i).contains (rd_T55 l (i : Int)).f0)) := rfl
      rw [hs1, ho]; simp
    rw [sentTo_mono l _ hb l.length z3] at h
    cases h.1
  · rfl
def delayK (k : Nat) (l : List S55) (no : Int) : Option (Int × Int) :=
  if sentB l = false then some (0, 2) else if idxTo l no l.length 0 < 0 then some (0, 6) else
    (delayF k (rd_T55 l (idxTo l no l.length 0)) (winTo l no l.length) (loseTo l no l.length)).bind fun s => if s.2 = false then some (0, 10) else some (s.1, 0)
set_option maxHeartbeats 400000 in
set_option maxRecDepth 100000 in
theorem f66_any (x : S55) (g : Nat) (no : Int) (w : World) (h : w.cell? ⟨g, 0, none⟩ = some (.int .i64 no)) : Calls Tryd.prog 66 #[.agg #[.int .i64 x.f0, .int .i64 x.f1, .int .i64 x.f2, .int .i64 x.f3], .pointer (some ⟨g, 0, none⟩)] w fun e w' => e = .returned (.bool (x.f0 == no)) ∧ Below w.heap.size w w' := by
  have h1 : (w.alloc (.cells #[.int .i64 x.f0, .int .i64 x.f1, .int .i64 x.f2, .int .i64 x.f3] 55)).cell? ⟨g, 0, none⟩ = some (.int .i64 no) := keepc (below_alloc (Below.refl _ _) _) h
  have hu55 := Tryd.underlying55
  go_enter Tryd.func66, Tryd.ntmps66
  go_wp2
  go_ret
  exact ⟨rfl, below_alloc (Below.refl _ _) _⟩
set_option maxHeartbeats 800000 in
set_option maxRecDepth 100000 in
theorem IndexFunc_msg.calls (A0 : Option Addr) (c0 : Nat) (l : List S55) (g : Nat) (no : Int) (w : World) (hr : Kd.C k55 w A0 l.length l) (hg : w.cell? ⟨g, 0, none⟩ = some (.int .i64 no)) :
    Calls Tryd.prog 65 #[.slice A0 l.length c0, .func (.func 66) #[] #[.pointer (some ⟨g, 0, none⟩)]] w fun e w' => e = .returned (.int .i64 (idxTo l no l.length 0)) ∧ Below w.heap.size w w' := by
  have HG := aM hg; have HR := aM hr; (have HB0 := aM (Below.refl w.heap.size w)); (have hlen : (l.length : Int) ≤ 9223372036854775807 := by have := hr.2.1; omega); have hu55 := Tryd.underlying55; clear hg hr; (go_enter Tryd.func65, Tryd.ntmps65); go_wp2; (go_loopg [8] l.length (fun gk v8 w' => ∃ i : Nat, v8 = .int .i64 (i : Int) ∧ i ≤ l.length ∧ Aside0 (gk = l.length - i) ∧ Aside0 (idxTo l no l.length 0 = idxTo l no (l.length - i) i) ∧ Aside0 (Below w.heap.size w w'))); (case atStart => exact ⟨0, rfl, by omega, ⟨rfl⟩, ⟨rfl⟩, HB0⟩)
  case round =>
   clear HB0; obtain ⟨i, rfl, hi, HK, HI, HB⟩ := hrel; by_cases hlt : i < l.length; rotate_left
   · (obtain rfl : i = l.length := by omega); go_wp2; go_ret; (exact ⟨by rw [HI.out, Nat.sub_self]; rfl, HB.out⟩)
   (obtain ⟨ad, e0, hx0, hx1, hx2, hx3⟩ := at_T55 (Kd.C_below HR.out HB.out) (i : Int) z3 z3); cases e0; simp only [Int.toNat_natCast] at hx0 hx1 hx2 hx3; (have HN : Aside0 (idxTo l no (l.length - i) i = if (rd_T55 l (i : Int)).f0 = no then (i : Int) else idxTo l no (l.length - (i + 1)) (i + 1)) := ⟨by rw [show l.length - i = (l.length - (i + 1)) + 1 by omega]; rfl⟩); (generalize rd_T55 l (i : Int) = x at HN hx0 hx1 hx2 hx3); (obtain ⟨bb, hbb⟩ : ∃ bb, (x.f0 == no) = bb := ⟨_, rfl⟩); have HBB := aM hbb; (have HC : Aside0 (Calls Tryd.prog 66 #[.agg #[.int .i64 x.f0, .int .i64 x.f1, .int .i64 x.f2, .int .i64 x.f3], .pointer (some ⟨g, 0, none⟩)] wr fun e w' => e = .returned (.bool bb) ∧ Below wr.heap.size wr w') := ⟨hbb ▸ f66_any x g no wr (keepc HB.out HG.out)⟩); clear hbb; cases bb; rotate_left
   · (go_wp2_with (first | (go_at_call 66; refine HC.out.mono ?_; rintro e w1 ⟨rfl, b1⟩; replace b1 := aM b1))); go_ret; (exact ⟨by rw [HI.out, HN.out, if_pos (by simpa using HBB.out)]; rfl, below_step HB.out b1.out⟩)
   (go_wp2_with (first | (go_at_call 66; refine HC.out.mono ?_; rintro e w1 ⟨rfl, b1⟩; replace b1 := aM b1))); (go_roundg (l.length - (i + 1))); (case measure => have := HK.out; omega); (case rel => exact ⟨i + 1, by go_num, by omega, ⟨rfl⟩, ⟨by rw [HI.out, HN.out, if_neg (by simpa using HBB.out)]⟩, ⟨below_step HB.out b1.out⟩⟩)
set_option maxHeartbeats 2000000 in
set_option maxRecDepth 100000 in
theorem bus_Delay.callsK (k : Nat) (A0 : Option Addr) (c0 : Nat) (l : List S55) (no r1 r2 : Int) (w : World) (hr : Kd.C k55 w A0 l.length l) (hc : l.length ≤ c0) (h : delayK k l no = some (r1, r2)) :
    Calls Tryd.prog 30 #[.slice A0 l.length c0, .int .i64 no] w fun e w' => e = .returned (.tuple #[.int .i64 r1, .int .i64 r2]) ∧ Below w.heap.size w w' := by
  have hu55 := Tryd.underlying55; have HR := aM hr; have HCC := aM hc; (have HB0 : Aside0 (Below w.heap.size w (w.alloc (.cells #[.int .i64 no] 3))) := ⟨below_alloc (Below.refl _ _) _⟩); (have HNO : Aside0 ((w.alloc (.cells #[.int .i64 no] 3)).cell? ⟨w.heap.size, 0, none⟩ = some (.int .i64 no)) := ⟨(blk_cell (blk_new w _) 0).trans rfl⟩); (unfold delayK at h); (cases hs : sentB l)
  · rw [hs, if_pos rfl] at h; (obtain ⟨rfl, rfl⟩ := Prod.mk.inj (sI h)); (have HC : Aside0 (∀ W, Below w.heap.size w W → Calls Tryd.prog 64 #[.slice A0 l.length c0] W fun e w' => e = .returned (.bool false) ∧ Below W.heap.size W w') := ⟨fun W hb => hs ▸ bus_sent.calls0 A0 c0 l W (Kd.C_below hr hb) hc⟩); clear h hr hc hs; (go_enter Tryd.func30, Tryd.ntmps30); (go_wp2_with (first | (go_at_call 64; refine (HC.out _ HB0.out).mono ?_; rintro e w1 ⟨rfl, b1⟩; replace b1 := aM b1))); go_ret2; (exact ⟨rfl, below_step HB0.out b1.out⟩)
  rw [hs, if_neg (by simp)] at h; (obtain ⟨hl8, hok⟩ := sentB_oks l hs); (have HC : Aside0 (∀ W, Below w.heap.size w W → Calls Tryd.prog 64 #[.slice A0 l.length c0] W fun e w' => e = .returned (.bool true) ∧ Below W.heap.size W w') := ⟨fun W hb => hs ▸ bus_sent.calls0 A0 c0 l W (Kd.C_below hr hb) hc⟩); have HOK := aM hok; (have hrange := idxTo_range l no l.length 0); (have HI : Aside0 (∀ W, Below (w.alloc (.cells #[.int .i64 no] 3)).heap.size (w.alloc (.cells #[.int .i64 no] 3)) W → Calls Tryd.prog 65 #[.slice A0 l.length c0, .func (.func 66) #[] #[.pointer (some ⟨w.heap.size, 0, none⟩)]] W fun e w' => e = .returned (.int .i64 (idxTo l no l.length 0)) ∧ Below W.heap.size W w') := ⟨fun W hb => IndexFunc_msg.calls A0 c0 l w.heap.size no W (Kd.C_below (Kd.C_below hr HB0.out) hb) (keepc hb HNO.out)⟩); (generalize idxTo l no l.length 0 = ix at h HI hrange); clear hs hok hr hc; by_cases hneg : ix < 0
  · rw [if_pos hneg] at h; (obtain ⟨rfl, rfl⟩ := Prod.mk.inj (sI h)); (have t1 := dT hneg); clear h hneg hrange; (go_enter Tryd.func30, Tryd.ntmps30); (go_wp2_with (first | (go_at_call 64; refine (HC.out _ HB0.out).mono ?_; rintro e w1 ⟨rfl, b1⟩; replace b1 := aM b1) | (go_at_call 65; refine (HI.out _ b1.out).mono ?_; rintro e w2 ⟨rfl, b2⟩; replace b2 := aM b2))); go_ret2; (exact ⟨rfl, below_step HB0.out (below_step b1.out b2.out)⟩)
  rw [if_neg hneg] at h; (have t1 := dF hneg); (obtain ⟨n, rfl⟩ : ∃ n : Nat, ix = (n : Int) := ⟨ix.toNat, by omega⟩); (have hn : n < l.length := by omega); clear hneg hrange; (obtain ⟨⟨d, dk⟩, hd, h⟩ := oB h); (dsimp only at h); have HD := aM hd; have HH := aM h; clear h hd; (go_enter Tryd.func30, Tryd.ntmps30); (go_wp2_with (first | (go_at_call 64; refine (HC.out _ HB0.out).mono ?_; rintro e w1 ⟨rfl, b1⟩; replace b1 := aM b1) | (go_at_call 65; refine (HI.out _ b1.out).mono ?_; rintro e w2 ⟨rfl, b2⟩; have B2 := aM (below_step b1.out b2); clear b2 b1))); clear HC HI; (have hlen : (l.length : Int) ≤ 9223372036854775807 := by omega); (have R70 : Aside0 (Kd.R k55 55 w2 (w.alloc (.cells #[.int .i64 no] 3)).heap.size (fun k => True ∧ some k ≠ (Value.slice none 0 0).ownBlock) (.slice none 0 0) ([] : List S55)) := ⟨Kd.R_nil _ _ _ _ _⟩); (go_loopg [7, 8, 23] l.length (fun gk v7 v8 v23 w' => ∃ (i : Nat), v23 = .int .i64 (i : Int) ∧ i ≤ l.length ∧ Aside0 (gk = l.length - i) ∧ Aside0 (Kd.R k55 55 w' (w.alloc (.cells #[.int .i64 no] 3)).heap.size (fun k => True ∧ some k ≠ v8.ownBlock) v7 (winTo l no i)) ∧ Aside0 (Kd.R k55 55 w' (w.alloc (.cells #[.int .i64 no] 3)).heap.size (fun k => True ∧ some k ≠ v7.ownBlock) v8 (loseTo l no i)) ∧ Aside0 (Below (w.alloc (.cells #[.int .i64 no] 3)).heap.size (w.alloc (.cells #[.int .i64 no] 3)) w'))); (case atStart => exact ⟨0, rfl, by omega, ⟨rfl⟩, R70, R70, B2⟩)
  case round =>
   clear R70 B2; obtain ⟨i, rfl, hi, HK, R7, R8, HB⟩ := hrel; by_cases hlt : i < l.length; rotate_left
   · (obtain rfl : i = l.length := by omega); (obtain ⟨A7, c7, rfl, h7, hr7⟩ := Kd.R_reads R7.out); (obtain ⟨A8, c8, rfl, h8, hr8⟩ := Kd.R_reads R8.out); (have W7 := aM (⟨hr7, h7⟩ : _ ∧ _)); (have W8 := aM (⟨hr8, h8⟩ : _ ∧ _)); (have HOKn := HOK.out n hn); (have HOW := aM (winTo_ok l no l.length HOK.out l.length (Nat.le_refl _))); (have HOL := aM (loseTo_ok l no l.length HOK.out l.length (Nat.le_refl _))); (have hwl := winTo_len l no l.length); (have hll := loseTo_len l no l.length); (obtain ⟨ad, e0, hx0, hx1, hx2, hx3⟩ := at_T55 (Kd.C_below (Kd.C_below HR.out HB0.out) HB.out) (n : Int) z3 z3); cases e0; simp only [Int.toNat_natCast] at hx0 hx1 hx2 hx3; clear R7 R8 h7 hr7 h8 hr8; (generalize rd_T55 l (n : Int) = x at HD HOKn hx0 hx1 hx2 hx3); (generalize winTo l no l.length = ws at HD W7 HOW hwl ⊢); (generalize loseTo l no l.length = ls at HD W8 HOL hll ⊢); have HOKX := aM HOKn; (have HCD : Aside0 (Calls Tryd.prog 67 #[.agg #[.int .i64 x.f0, .int .i64 x.f1, .int .i64 x.f2, .int .i64 x.f3], .slice A7 ws.length c7, .slice A8 ls.length c8] wr fun e w' => e = .returned (.tuple #[.int .i64 d, .bool dk]) ∧ Below wr.heap.size wr w') := ⟨bus_delay.calls k x A7 A8 c7 c8 ws ls d dk wr W7.out.1 W7.out.2 W8.out.1 W8.out.2 HOKX.out HOW.out HOL.out z3 z3 HD.out⟩); clear HOKn hwl hll; cases dk
     · have h := HH.out; rw [if_pos rfl] at h; (obtain ⟨rfl, rfl⟩ := Prod.mk.inj (sI h)); clear h HH; (go_wp2_with (first | (go_at_call 67; refine HCD.out.mono ?_; rintro e w5 ⟨rfl, b5⟩; replace b5 := aM b5))); go_ret2; (exact ⟨rfl, below_step HB0.out (below_step HB.out b5.out)⟩)
     have h := HH.out; rw [if_neg (by simp)] at h; (obtain ⟨rfl, rfl⟩ := Prod.mk.inj (sI h)); clear h HH; (go_wp2_with (first | (go_at_call 67; refine HCD.out.mono ?_; rintro e w5 ⟨rfl, b5⟩; replace b5 := aM b5))); go_ret2; (exact ⟨rfl, below_step HB0.out (below_step HB.out b5.out)⟩)
   (obtain ⟨ad, e0, hx0, hx1, hx2, hx3⟩ := at_T55 (Kd.C_below (Kd.C_below HR.out HB0.out) HB.out) (i : Int) z3 z3); cases e0; simp only [Int.toNat_natCast] at hx0 hx1 hx2 hx3; (have HWN : Aside0 (winTo l no (i + 1) = if (rd_T55 l (i : Int)).f0 < no then winTo l no i ++ [rd_T55 l (i : Int)] else winTo l no i) := ⟨rfl⟩); (have HLN : Aside0 (loseTo l no (i + 1) = if no < (rd_T55 l (i : Int)).f0 then loseTo l no i ++ [rd_T55 l (i : Int)] else loseTo l no i) := ⟨rfl⟩); (have hwl := winTo_len l no i); (have hll := loseTo_len l no i); (generalize rd_T55 l (i : Int) = x at HWN HLN hx0 hx1 hx2 hx3); (generalize winTo l no i = ws at HWN R7 hwl); (generalize loseTo l no i = ls at HLN R8 hll); (have HB3 : Aside0 (Below (w.alloc (.cells #[.int .i64 no] 3)).heap.size (w.alloc (.cells #[.int .i64 no] 3)) (wr.alloc (.cells #[.int .i64 x.f0, .int .i64 x.f1, .int .i64 x.f2, .int .i64 x.f3] 55))) := ⟨HB.out.alloc HB.out.size _⟩); (have hno : (wr.alloc (.cells #[.int .i64 x.f0, .int .i64 x.f1, .int .i64 x.f2, .int .i64 x.f3] 55)).cell? ⟨w.heap.size, 0, none⟩ = some (.int .i64 no) := keepc HB3.out HNO.out); (have S7 : Aside0 (Kd.R k55 55 (wr.alloc (.cells #[.int .i64 x.f0, .int .i64 x.f1, .int .i64 x.f2, .int .i64 x.f3] 55)) (w.alloc (.cells #[.int .i64 no] 3)).heap.size (fun k => True ∧ some k ≠ u8.ownBlock) u7 ws) := ⟨Kd.R_alloc R7.out _⟩); (have S8 : Aside0 (Kd.R k55 55 (wr.alloc (.cells #[.int .i64 x.f0, .int .i64 x.f1, .int .i64 x.f2, .int .i64 x.f3] 55)) (w.alloc (.cells #[.int .i64 no] 3)).heap.size (fun k => True ∧ some k ≠ u7.ownBlock) u8 ls) := ⟨Kd.R_alloc R8.out _⟩)
   (have M0 : (wr.alloc (.cells #[.int .i64 x.f0, .int .i64 x.f1, .int .i64 x.f2, .int .i64 x.f3] 55)).heap[wr.heap.size]? = some (.cells #[.int .i64 x.f0, .int .i64 x.f1, .int .i64 x.f2, .int .i64 x.f3] 55 (0, 0)) := blk_new _ _); clear R7 R8 HB; (go_upto_region 10 with (fail)); clear hx0 hx1 hx2 hx3; (generalize wr.alloc (.cells #[.int .i64 x.f0, .int .i64 x.f1, .int .i64 x.f2, .int .i64 x.f3] 55) = W at M0 HB3 hno S7 S8 ⊢); (generalize wr.heap.size = g at M0 ⊢); (have hg0 : W.cell? ⟨g, 0, none⟩ = some (.int .i64 x.f0) := (blk_cell M0 0).trans rfl); (have hg1 : W.cell? ⟨g, 1, none⟩ = some (.int .i64 x.f1) := (blk_cell M0 1).trans rfl); (have hg2 : W.cell? ⟨g, 2, none⟩ = some (.int .i64 x.f2) := (blk_cell M0 2).trans rfl); (have hg3 : W.cell? ⟨g, 3, none⟩ = some (.int .i64 x.f3) := (blk_cell M0 3).trans rfl); clear M0; by_cases c1 : x.f0 < no
   · (have c1b := dT c1); (have c2 : ¬ no < x.f0 := by omega); rw [if_pos c1] at HWN; rw [if_neg c2] at HLN; clear c1 c2
     go_wp2_with (first
     | ((with_reducible refine gate_builtin (b := .append) (xs := #[.tmp 32, .tmp 34]) rfl ?_); at_builtin; refine Kd.R_append k55 (w0 := (w.alloc (.cells #[.int .i64 no] 3))) (w.alloc (.cells #[.int .i64 no] 3)).heap.size rfl (.tmp 32) (.tmp 34) 46 55 (.agg #[(.int .i64 0), (.int .i64 0), (.int .i64 0), (.int .i64 0)]) 32 rfl Tryd.underlying46 info55 rfl z10 z3 u7 ws x [.int .i64 x.f0, .int .i64 x.f1, .int .i64 x.f2, .int .i64 x.f3] (fun k => True ∧ some k ≠ u8.ownBlock) (fun _ => False) rfl rfl ?aP (fun _ hk => hk.elim) ?aF ?aO ?aB ?aS ?aL ?_; (case aP => exact k55_mkM _ _ _ x); (case aF => exact (fun k hk => ⟨trivial, fun e => by have := Kd.R_lt S8.out k e.symm; omega⟩)); (case aO => exact S7.out); (case aB => exact HB3.out); (case aS => exact HB3.out.size); (case aL => omega); intro v1 w4 ho hb hg hat; have N1 := aM ho; have NB := aM hb; have N2 := aM (Kd.R_after S8.out hg hat); clear ho hb hg hat))
     (go_roundg (l.length - (i + 1))); (case measure => have := HK.out; omega); (case rel => exact ⟨i + 1, by go_num, by omega, ⟨rfl⟩, ⟨by rw [HWN.out]; exact N1.out⟩, ⟨by rw [HLN.out]; exact N2.out⟩, NB⟩)
   (have c1b := dF c1); rw [if_neg c1] at HWN; by_cases c2 : no < x.f0; rotate_left
   · (have c2b := dF c2); rw [if_neg c2] at HLN; clear c1 c2; go_wp2; (go_roundg (l.length - (i + 1))); (case measure => have := HK.out; omega); (case rel => exact ⟨i + 1, by go_num, by omega, ⟨rfl⟩, ⟨by rw [HWN.out]; exact S7.out⟩, ⟨by rw [HLN.out]; exact S8.out⟩, HB3⟩)
   (have c2b := dT c2); rw [if_pos c2] at HLN; clear c1 c2
   go_wp2_with (first
   | ((with_reducible refine gate_builtin (b := .append) (xs := #[.tmp 41, .tmp 43]) rfl ?_); at_builtin; refine Kd.R_append k55 (w0 := (w.alloc (.cells #[.int .i64 no] 3))) (w.alloc (.cells #[.int .i64 no] 3)).heap.size rfl (.tmp 41) (.tmp 43) 46 55 (.agg #[(.int .i64 0), (.int .i64 0), (.int .i64 0), (.int .i64 0)]) 32 rfl Tryd.underlying46 info55 rfl z10 z3 u8 ls x [.int .i64 x.f0, .int .i64 x.f1, .int .i64 x.f2, .int .i64 x.f3] (fun k => True ∧ some k ≠ u7.ownBlock) (fun _ => False) rfl rfl ?aP (fun _ hk => hk.elim) ?aF ?aO ?aB ?aS ?aL ?_; (case aP => exact k55_mkM _ _ _ x); (case aF => exact (fun k hk => ⟨trivial, fun e => by have := Kd.R_lt S7.out k e.symm; omega⟩)); (case aO => exact S8.out); (case aB => exact HB3.out); (case aS => exact HB3.out.size); (case aL => omega); intro v1 w4 ho hb hg hat; have N1 := aM ho; have NB := aM hb; have N2 := aM (Kd.R_after S7.out hg hat); clear ho hb hg hat))
   (go_roundg (l.length - (i + 1))); (case measure => have := HK.out; omega); (case rel => exact ⟨i + 1, by go_num, by omega, ⟨rfl⟩, ⟨by rw [HWN.out]; exact N2.out⟩, ⟨by rw [HLN.out]; exact N1.out⟩, NB⟩)
end Go.Proofs.YtbanemecfobonaaDoor.B
end
section
namespace Go.Proofs.YtbanemecfobonaaDoor.B
open Go.RowKit Go.Proofs.YtbanemecfobonaaDoorW.PrintWords Go.Proofs.YtbanemecfobonaaDoorW.PrintLast Go.Proofs.YtbanemecfobonaaDoorW.PrintMore
attribute [local go_sem] min2_int min_two
set_option linter.unusedVariables false
set_option linter.unusedSimpArgs false
end Go.Proofs.YtbanemecfobonaaDoor.B
end
