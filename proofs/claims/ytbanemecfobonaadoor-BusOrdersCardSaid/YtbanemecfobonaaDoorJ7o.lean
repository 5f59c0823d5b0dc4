/- Written by a program (lite.py, squash.py, join.py) from my texts. -/
import Derived.Test.YtbanemecfobonaaDoorJ6o
import Derived.Laws.EntriesVeiled
import Derived.Laws.BitsLemmas
import Derived.Lib.EndianBits
namespace Go.Proofs.YtbanemecfobonaaDoor.B
open Go.RowKit Go.Proofs.YtbanemecfobonaaDoorW.PrintWords Go.Proofs.YtbanemecfobonaaDoorW.PrintLast Go.Proofs.YtbanemecfobonaaDoorW.PrintMore
set_option linter.unusedVariables false
set_option linter.unusedSimpArgs false
def partOf (k : Nat) (x : S55) : Option (List Int × List Int) :=
  (bus_bits.f x.f0 x.f1 x.f2 x.f3).bind fun b => if 0 ≤ b ∧ b < 9223372036854775808 ∧ 0 ≤ x.f2 ∧ x.f2 < 9223372036854775808 then (big_of.f k b).bind fun n => (big_of.f k x.f2).bind fun d => ratSet (divG k) k k n d else none
def shareTo (k : Nat) (l : List S55) : Nat → Option (List Int × List Int)
  | 0 => some ([], [])
  | i + 1 => (shareTo k l i).bind fun s => (partOf k (rd_T55 l (i : Int))).bind fun f => ratAdd (divG k) k k s.1 s.2 f.1 f.2
def bus_share.f (k : Nat) (l : List S55) : Option (List Int × List Int) := shareTo k l l.length
theorem shareTo_some (k : Nat) (l : List S55) (n : Nat) (r : List Int × List Int) (h : shareTo k l n = some r) : ∀ i, i ≤ n → ∃ s, shareTo k l i = some s := by
  induction n generalizing r with
  | zero => intro i hi
            obtain rfl : i = 0 := by omega
            exact ⟨r, h⟩
  | succ n ih =>
    intro i hi
    by_cases e : i = n + 1
    · subst e; exact ⟨r, h⟩
    · obtain ⟨s, hs, _⟩ := oB h
      exact ih s hs i z3
theorem big_Rat_Add.self (Div : List Int → List Int → Option (List Int × List Int)) (hD : DivOk Div) (k n g gy : Nat) (lx dx ly dy r1 r2 : List Int) (w : World) (hx : RatB w g lx dx) (hy : RatB w gy ly dy) (h : ratAdd Div k n lx dx ly dy = some (r1, r2)) :
    Calls Tryd.prog 102 #[.pointer (some ⟨g, 0, none⟩), .pointer (some ⟨g, 0, none⟩), .pointer (some ⟨gy, 0, none⟩)] w fun e w' => e = .returned (.pointer (some ⟨g, 0, none⟩)) ∧ Only w w' g ∧ RatB w' g r1 r2 := by
  have hx' := hx
  obtain ⟨A, c, A', c', h1, h2, h3⟩ := hx
  exact big_Rat_Add.calls Div hD k n g g gy _ _ _ lx dx ly dy r1 r2 w h1 hx' hy h
set_option maxHeartbeats 2000000 in
set_option maxRecDepth 100000 in
theorem bus_share.calls (k : Nat) (A0 : Option Addr) (c0 : Nat) (l : List S55) (r1 r2 : List Int) (w : World) (hr0 : Kd.C k55 w A0 l.length l) (hc0 : l.length ≤ c0) (h : bus_share.f k l = some (r1, r2)) :
    Calls Tryd.prog 69 #[.slice A0 l.length c0] w fun e w' => ∃ g', e = .returned (.pointer (some ⟨g', 0, none⟩)) ∧ w.heap.size ≤ g' ∧ Below w.heap.size w w' ∧ RatB w' g' r1 r2 := by
  (have HALL := aM (shareTo_some k l l.length _ h)); have HEND := aM h; have HR0 := aM hr0; (have hlen : (l.length : Int) ≤ 9223372036854775807 := by have := HR0.out.2.1; omega); (have R00 : Aside0 (RatB (w.alloc (.cells #[.bool false, .slice none 0 0, .slice none 0 0] 123)) w.heap.size [] []) := ⟨(Z3.new w).rat⟩); (have B00 : Aside0 (Below w.heap.size w (w.alloc (.cells #[.bool false, .slice none 0 0, .slice none 0 0] 123))) := ⟨bAl (Below.refl _ _) _⟩); clear hr0 hc0 h; have hu55 := Tryd.underlying55; (go_enter Tryd.func69, Tryd.ntmps69); go_wp2; (go_loopg [9] l.length (fun gk v9 w' => ∃ i : Nat, v9 = .int .i64 (i : Int) ∧ i ≤ l.length ∧ Aside0 (gk = l.length - i) ∧ Aside0 (∃ s1 s2, shareTo k l i = some (s1, s2) ∧ RatB w' w.heap.size s1 s2) ∧ Aside0 (Below w.heap.size w w'))); (case atStart => exact ⟨0, rfl, by omega, ⟨rfl⟩, ⟨[], [], rfl, R00.out⟩, B00⟩)
  case round =>
   clear R00 B00; obtain ⟨i, rfl, hi, HK, HS, HB⟩ := hrel; by_cases hlt : i < l.length; rotate_left
   · (obtain rfl : i = l.length := by omega); obtain ⟨a1, a2, hs, hrat⟩ := HS.out; (have he : (r1, r2) = (a1, a2) := sI (HEND.out.symm.trans hs)); (obtain ⟨rfl, rfl⟩ := Prod.mk.inj he); have RAT := aM hrat; clear hs hrat HS he; go_wp2; go_ret; (exact ⟨_, rfl, Nat.le_refl _, HB.out, RAT.out⟩)
   obtain ⟨a1, a2, hs, hrat⟩ := HS.out; (obtain ⟨⟨t1, t2⟩, hs2⟩ := HALL.out (i + 1) z3); have HNEXT := aM hs2; rw [shareTo, hs, Option.bind_some] at hs2; (obtain ⟨⟨p1, p2⟩, hf, hs2⟩ := oB hs2); (dsimp only at hs2); (obtain ⟨ad, e0, hx0, hx1, hx2, hx3⟩ := at_T55 HR0.out (i : Int) z3 z3); cases e0; (replace hx0 := kpc HB.out hx0); (replace hx1 := kpc HB.out hx1); (replace hx2 := kpc HB.out hx2); (replace hx3 := kpc HB.out hx3); simp only [Int.toNat_natCast] at hx0 hx1 hx2 hx3; (generalize rd_T55 l (i : Int) = x at hf hx0 hx1 hx2 hx3); (unfold partOf at hf); (obtain ⟨b, hb, hf⟩ := oB hf); (split at hf); (case isFalse => cases hf); (rename_i hcond); obtain ⟨q0, q1, q2, q3⟩ := hcond; (obtain ⟨nn, hn, hf⟩ := oB hf); (obtain ⟨dd, hd, hf⟩ := oB hf); have EB := aM hb; have EN := aM hn; have ED := aM hd; have EF := aM hf; have EA := aM hs2; (have EQ := aM (⟨q0, q1, q2, q3⟩ : _ ∧ _ ∧ _ ∧ _)); have RAT := aM hrat; clear hb hn hd hf hs2 hs hrat HS q0 q1 q2 q3; (go_upto_region 5 with (fail)); (have B0 : Below w.heap.size w (wr.alloc (.cells #[.int .i64 x.f0, .int .i64 x.f1, .int .i64 x.f2, .int .i64 x.f3] 55)) := bAl HB.out _); (have R0 : RatB (wr.alloc (.cells #[.int .i64 x.f0, .int .i64 x.f1, .int .i64 x.f2, .int .i64 x.f3] 55)) w.heap.size a1 a2 := RAT.out.below (bAl (Below.refl _ _) _))
   (have M0 : (wr.alloc (.cells #[.int .i64 x.f0, .int .i64 x.f1, .int .i64 x.f2, .int .i64 x.f3] 55)).heap[wr.heap.size]? = some (.cells #[.int .i64 x.f0, .int .i64 x.f1, .int .i64 x.f2, .int .i64 x.f3] 55 (0, 0)) := blk_new _ _); (have HLW : Aside0 (w.heap.size < (wr.alloc (.cells #[.int .i64 x.f0, .int .i64 x.f1, .int .i64 x.f2, .int .i64 x.f3] 55)).heap.size) := ⟨by have := HB.out.size; rw [World.size_alloc]; omega⟩); (have HNE : Aside0 (wr.heap.size ≠ w.heap.size) := ⟨by obtain ⟨_, _, _, _, h1, _⟩ := RAT.out; have := blk_lt h1; omega⟩); clear hx0 hx1 hx2 hx3 RAT HB; (generalize wr.alloc (.cells #[.int .i64 x.f0, .int .i64 x.f1, .int .i64 x.f2, .int .i64 x.f3] 55) = W at B0 R0 M0 HLW ⊢); (generalize wr.heap.size = m at M0 HNE ⊢); (have hc0 : W.cell? ⟨m, 0, none⟩ = some (.int .i64 x.f0) := (bCl M0 0).trans rfl); (have hc1 : W.cell? ⟨m, 1, none⟩ = some (.int .i64 x.f1) := (bCl M0 1).trans rfl); (have hc2 : W.cell? ⟨m, 2, none⟩ = some (.int .i64 x.f2) := (bCl M0 2).trans rfl); (have hc3 : W.cell? ⟨m, 3, none⟩ = some (.int .i64 x.f3) := (bCl M0 3).trans rfl); (have HS0 : Aside0 (∀ W1, Below W.heap.size W W1 → (fun w1 => w1.cell? ⟨m, 0, none⟩ = some (.int .i64 x.f0) ∧ w1.cell? ⟨m, 1, none⟩ = some (.int .i64 x.f1) ∧ w1.cell? ⟨m, 2, none⟩ = some (.int .i64 x.f2) ∧ w1.cell? ⟨m, 3, none⟩ = some (.int .i64 x.f3)) W1) := ⟨fun W1 hb => ⟨(bCl (kBl M0 hb) 0).trans rfl, (bCl (kBl M0 hb) 1).trans rfl, (bCl (kBl M0 hb) 2).trans rfl, (bCl (kBl M0 hb) 3).trans rfl⟩⟩)
   (have HS2 : Aside0 (∀ W1 W2, Below W.heap.size W W1 → KeepBut W1 W2 w.heap.size none → (fun w1 => w1.cell? ⟨m, 0, none⟩ = some (.int .i64 x.f0) ∧ w1.cell? ⟨m, 1, none⟩ = some (.int .i64 x.f1) ∧ w1.cell? ⟨m, 2, none⟩ = some (.int .i64 x.f2) ∧ w1.cell? ⟨m, 3, none⟩ = some (.int .i64 x.f3)) W2) := ⟨fun W1 W2 hb hk => ⟨keep_cell hk ((bCl (kBl M0 hb) 0).trans rfl) HNE.out, keep_cell hk ((bCl (kBl M0 hb) 1).trans rfl) HNE.out, keep_cell hk ((bCl (kBl M0 hb) 2).trans rfl) HNE.out, keep_cell hk ((bCl (kBl M0 hb) 3).trans rfl) HNE.out⟩⟩); (have HR : Aside0 (∀ W1, Below W.heap.size W W1 → RatB W1 w.heap.size a1 a2) := ⟨fun W1 hb => R0.below hb⟩); have HB0 := aM B0; clear M0 R0 B0
   go_region_held3 (fun w1 => w1.cell? ⟨m, 0, none⟩ = some (.int .i64 x.f0) ∧ w1.cell? ⟨m, 1, none⟩ = some (.int .i64 x.f1) ∧ w1.cell? ⟨m, 2, none⟩ = some (.int .i64 x.f2) ∧ w1.cell? ⟨m, 3, none⟩ = some (.int .i64 x.f3)) (first | exact ⟨hc0, hc1, hc2, hc3⟩ | exact HS2.out _ _ z16 hk.out.2 | exact HS0.out _ z16 | go_keep)
     (first
     | (go_at_call 87; refine (bus_bits.calls x.f0 x.f1 x.f2 x.f3 b _ EB.out).mono ?_; rintro e w1 ⟨rfl, b1⟩; have B1 : Aside0 (Below W.heap.size W w1) := ⟨bSt z16 b1⟩; replace b1 := aM b1)
     | (go_at_call_of 70 (Value.int .i64 b); refine (big_NewInt.calls2 k b nn W _ EQ.out.1 EN.out EQ.out.2.1 ?q1).mono ?_; (case q1 => repeat (first | exact Below.refl _ _ | exact B6.out | exact B5.out | exact B4.out | exact B3.out | exact B2.out | exact B1.out | apply bAl | apply pBd | apply bD1)); rintro e w2 ⟨g2, rfl, s2, b2, B2, f2⟩; replace b2 := aM b2; replace B2 := aM B2; replace f2 := aM f2; clear s2)
     | (go_at_call_of 70 (Value.int .i64 x.f2); refine (big_NewInt.calls2 k x.f2 dd W _ EQ.out.2.2.1 ED.out EQ.out.2.2.2 ?q1).mono ?_; (case q1 => repeat (first | exact Below.refl _ _ | exact B6.out | exact B5.out | exact B4.out | exact B3.out | exact B2.out | exact B1.out | apply bAl | apply pBd | apply bD1)); rintro e w3 ⟨g3, rfl, s3, b3, B3, f3⟩; replace b3 := aM b3; replace B3 := aM B3; replace f3 := aM f3; clear s3)
     | (go_at_call 96; refine (big_Rat_SetFrac.calls (divG k) (divG_ok k) k k _ g2 g3 (.bool false) (.slice none 0 0) (.slice none 0 0) nn dd p1 p2 _ ?q1 (FI.int (w := W) ?q2) (FI.int (w := W) ?q3) EF.out).mono ?_; (case q1 => (change Z3 _ _; repeat (first | exact Z3.new _ | exact Z3.new' rfl | with_reducible refine Z3.below ?_ b1.out | with_reducible refine Z3.below ?_ b2.out | with_reducible refine Z3.below ?_ b3.out | with_reducible refine Z3.drewN ?_ _ | with_reducible refine Z3.drew ?_ | with_reducible refine Z3.alloc ?_ _))); (case q2 => repeat (first | with_reducible exact f2.out | with_reducible exact f3.out | with_reducible refine FI.below ?_ b3.out | with_reducible refine FI.drewN ?_ _ | with_reducible refine FI.drew ?_ | with_reducible refine FI.alloc ?_ _)); (case q3 => repeat (first | with_reducible exact f2.out | with_reducible exact f3.out | with_reducible refine FI.below ?_ b3.out | with_reducible refine FI.drewN ?_ _ | with_reducible refine FI.drew ?_ | with_reducible refine FI.alloc ?_ _)); rintro e w4 ⟨rfl, o4, r4⟩; have B4 : Aside0 (Below W.heap.size W w4) := ⟨o4.below z16 (by (have z0_ : True := trivial; (try have y1_ := B1.out.size); (try have y2_ := B2.out.size); (try have y3_ := B3.out.size); (try have y4_ := b1.out.size); (try have y5_ := b2.out.size); (try have y6_ := b3.out.size); (try simp only [World.size_alloc, dSz] at y1_); (try simp only [World.size_alloc, dSz] at y2_); (try simp only [World.size_alloc, dSz] at y3_); (try simp only [World.size_alloc, dSz] at y4_); (try simp only [World.size_alloc, dSz] at y5_); (try simp only [World.size_alloc, dSz] at y6_); first | omega | (simp only [World.size_alloc, dSz]; omega)))⟩; replace r4 := aM r4; clear o4)
     | (go_at_call 102; refine (big_Rat_Add.self (divG k) (divG_ok k) k k w.heap.size _ a1 a2 p1 p2 t1 t2 _ (HR.out _ ?q1) (by first | exact r4.out | exact r4.out.below (pBd (Below.refl _ _) _)) EA.out).mono ?_; (case q1 => repeat (first | exact Below.refl _ _ | exact B6.out | exact B5.out | exact B4.out | exact B3.out | exact B2.out | exact B1.out | apply bAl | apply pBd | apply bD1)); rintro e w5 ⟨rfl, hk, r5⟩; have B5 : Aside0 (Below w.heap.size w w5) := ⟨hk.below (bSt HB0.out z16) (Nat.le_refl _)⟩; replace hk := aM hk; replace r5 := aM r5))
   all_goals
     rename_i hHeld
     clear hHeld HS0 HS2 hc0 hc1 hc2 hc3
     go_wp2
     go_roundg (l.length - (i + 1))
     case measure => have := HK.out; omega
     case rel => exact ⟨i + 1, by go_num, by omega, ⟨rfl⟩, ⟨t1, t2, HNEXT.out, r5.out⟩, B5⟩
theorem bus_share.callsN (k : Nat) (A0 : Option Addr) (c0 n : Nat) (l : List S55) (r1 r2 : List Int) (w : World) (hr0 : Kd.C k55 w A0 l.length l) (hc0 : l.length ≤ c0) (hn : l.length = n) (h : bus_share.f k l = some (r1, r2)) :
    Calls Tryd.prog 69 #[.slice A0 n c0] w fun e w' => ∃ g', e = .returned (.pointer (some ⟨g', 0, none⟩)) ∧ w.heap.size ≤ g' ∧ Below w.heap.size w w' ∧ RatB w' g' r1 r2 := by
  subst hn
  exact bus_share.calls k A0 c0 l r1 r2 w hr0 hc0 h
def bitsM (x : S55) : Int := 47 + 8 * x.f1 + (33 + 8 * x.f1) / 4
theorem okM_bounds {x : S55} (h : okM x = true) : 0 ≤ x.f0 ∧ x.f0 ≤ 2047 ∧ 0 ≤ x.f1 ∧ x.f1 ≤ 8 ∧ 1 ≤ x.f2 ∧ x.f2 ≤ 100000 ∧ 0 ≤ x.f3 ∧ x.f3 ≤ 100000 := by
  simpa only [okM, Bool.and_eq_true, decide_eq_true_eq, and_assoc] using h
theorem bitsM_bounds {x : S55} (h : okM x = true) : 55 ≤ bitsM x ∧ bitsM x ≤ 135 := by
  obtain ⟨_, _, h1, h2, _⟩ := okM_bounds h
  unfold bitsM; omega
theorem w64i (x : Int) (h1 : -9223372036854775808 ≤ x) (h2 : x ≤ 9223372036854775807) : wrap64 x = x := by simp only [wrap64]; omega
theorem bits_ok {x : S55} (h : okM x = true) : bus_bits.f x.f0 x.f1 x.f2 x.f3 = some (bitsM x) := by
  obtain ⟨_, _, h1, h2, _⟩ := okM_bounds h
  show some (wrap64 ((wrap64 (47 + (wrap64 (8 * x.f1)))) + (wrap64 (Int.tdiv (wrap64 (33 + (wrap64 (8 * x.f1)))) 4)))) = _
  rw [w64i (8 * x.f1) z3 z3, w64i (47 + 8 * x.f1) z3 z3, w64i (33 + 8 * x.f1) z3 z3, Int.tdiv_eq_ediv_of_nonneg z3, w64i ((33 + 8 * x.f1) / 4) z3 z3, w64i _ z3 z3]
  rfl
theorem bits_callsM (x : S55) (h : okM x = true) (w : World) : Calls Tryd.prog 87 #[.agg #[.int .i64 x.f0, .int .i64 x.f1, .int .i64 x.f2, .int .i64 x.f3]] w fun e w' => e = .returned (.int .i64 (bitsM x)) ∧ Below w.heap.size w w' :=
  bus_bits.calls x.f0 x.f1 x.f2 x.f3 (bitsM x) w (bits_ok h)
def inst (x : S55) (t : Int) : Int := (t + x.f3 + x.f2 - 1) / x.f2
def instW (x : S55) (t : Int) : Int := (t + x.f3) / x.f2 + 1
theorem ediv_le (a b : Int) (ha : 0 ≤ a) (hb : 1 ≤ b) : 0 ≤ a / b ∧ a / b ≤ a := ⟨Int.ediv_nonneg ha z3, Int.ediv_le_self _ ha⟩
theorem inst_bounds {x : S55} (h : okM x = true) {t : Int} (h0 : 0 ≤ t) (h1 : t ≤ 10000000) : 0 ≤ inst x t ∧ inst x t ≤ 10200000 := by
  obtain ⟨_, _, _, _, a, b, c, d⟩ := okM_bounds h
  have := ediv_le (t + x.f3 + x.f2 - 1) x.f2 z3 a
  unfold inst; omega
theorem instW_bounds {x : S55} (h : okM x = true) {t : Int} (h0 : 0 ≤ t) (h1 : t ≤ 10000000) : 1 ≤ instW x t ∧ instW x t ≤ 10200000 := by
  obtain ⟨_, _, _, _, a, b, c, d⟩ := okM_bounds h
  have := ediv_le (t + x.f3) x.f2 z3 a
  unfold instW; omega
theorem mulBits {p b : Int} (h0 : 0 ≤ p) (h1 : p ≤ 10200000) (h2 : 55 ≤ b) (h3 : b ≤ 135) : 0 ≤ p * b ∧ p * b ≤ 1400000000 := by
  refine ⟨Int.mul_nonneg h0 z3, ?_⟩
  have : p * b ≤ 10200000 * 135 := Int.mul_le_mul h1 h3 z3 z3
  omega
def sumI (f : S55 → Int) (l : List S55) : Nat → Int
  | 0 => 0
  | i + 1 => sumI f l i + f (rd_T55 l (i : Int))
theorem sumI_bounds (f : S55 → Int) (l : List S55) (c : Int) (hc : 0 ≤ c) (h : ∀ i, i < l.length → 0 ≤ f (rd_T55 l (i : Int)) ∧ f (rd_T55 l (i : Int)) ≤ c) : ∀ i : Nat, i ≤ l.length → 0 ≤ sumI f l i ∧ sumI f l i ≤ (i : Int) * c
  | 0, _ => by simp [sumI]
  | i + 1, hi => by
    obtain ⟨h1, h2⟩ := sumI_bounds f l c hc h i z3
    obtain ⟨h3, h4⟩ := h i z3
    simp only [sumI]
    have : ((i + 1 : Nat) : Int) * c = (i : Int) * c + c := by rw [Int.natCast_add, Int.add_mul]; simp
    omega
def busyN (blocked : Int) (x : S55) (win : List S55) (t : Int) : Int := blocked + inst x t * bitsM x + sumI (fun o => inst o t * bitsM o) win win.length
def waitN (blocked q : Int) (x : S55) (win : List S55) (t : Int) : Int := blocked + q * bitsM x + sumI (fun o => instW o t * bitsM o) win win.length
set_option maxHeartbeats 400000 in
set_option maxRecDepth 100000 in
theorem f97_any (x : S55) (t : Int) (w : World) (h : okM x = true) (h0 : 0 ≤ t) (h1 : t ≤ 10000000) : Calls Tryd.prog 97 #[.agg #[.int .i64 x.f0, .int .i64 x.f1, .int .i64 x.f2, .int .i64 x.f3], .int .i64 t] w fun e w' => e = .returned (.int .i64 (inst x t)) ∧ Below w.heap.size w w' := by
  obtain ⟨_, _, _, _, a, b, c, d⟩ := okM_bounds h
  have hu55 := Tryd.underlying55
  have hz : (x.f2 == 0) = false := beq_eq_false_iff_ne.mpr z3
  clear h
  go_enter Tryd.func97, Tryd.ntmps97
  go_wp2
  go_ret
  exact ⟨by unfold inst; rfl, bAl (Below.refl _ _) _⟩
def EnvG (w : World) (b i m v : Nat) (blocked : Int) (x : S55) (A : Option Addr) (c : Nat) (win : List S55) : Prop :=
  w.cell? ⟨b, 0, none⟩ = some (.int .i64 blocked) ∧ w.cell? ⟨i, 0, none⟩ = some (.func (.func 97) #[] #[]) ∧ w.cell? ⟨m, 0, none⟩ = some (.int .i64 x.f0) ∧ w.cell? ⟨m, 1, none⟩ = some (.int .i64 x.f1) ∧ w.cell? ⟨m, 2, none⟩ = some (.int .i64 x.f2) ∧ w.cell? ⟨m, 3, none⟩ = some (.int .i64 x.f3) ∧ w.cell? ⟨v, 0, none⟩ = some (.slice A win.length c) ∧ Kd.C k55 w A win.length win ∧ win.length ≤ c
theorem EnvG.below {w w' : World} {b i m v : Nat} {blocked : Int} {x : S55} {A : Option Addr} {c : Nat} {win : List S55} (h : EnvG w b i m v blocked x A c win) (hb : Below w.heap.size w w') : EnvG w' b i m v blocked x A c win := by
  obtain ⟨h0, h1, h2, h3, h4, h5, h6, h7, h8⟩ := h
  exact ⟨keepc hb h0, keepc hb h1, keepc hb h2, keepc hb h3, keepc hb h4, keepc hb h5, keepc hb h6, Kd.C_below h7 hb, h8⟩
set_option maxHeartbeats 2000000 in
set_option maxRecDepth 100000 in
theorem f99_any (b i m v : Nat) (blocked : Int) (x : S55) (A : Option Addr) (c : Nat) (win : List S55) (t : Int) (w : World) (h : EnvG w b i m v blocked x A c win) (hx : okM x = true) (hw : ∀ k, k < win.length → okM (rd_T55 win (k : Int)) = true) (hn : win.length ≤ 8) (hb0 : 0 ≤ blocked) (hb1 : blocked ≤ 135) (h0 : 0 ≤ t) (h1 : t ≤ 10000000) :
    Calls Tryd.prog 99 #[.int .i64 t, .pointer (some ⟨b, 0, none⟩), .pointer (some ⟨i, 0, none⟩), .pointer (some ⟨m, 0, none⟩), .pointer (some ⟨v, 0, none⟩)] w fun e w' => e = .returned (.int .i64 (busyN blocked x win t)) ∧ Below w.heap.size w w' := by
  have hu55 := Tryd.underlying55; have HE := aM h; have HX := aM hx; have HWN := aM hw; obtain ⟨hcb, hci, hc0, hc1, hc2, hc3, hcv, -, -⟩ := h; clear hx hw; (go_enter Tryd.func99, Tryd.ntmps99); go_wp2
  go_region_held3 (fun w1 => w1.cell? ⟨b, 0, none⟩ = some (.int .i64 blocked) ∧ w1.cell? ⟨i, 0, none⟩ = some (.func (.func 97) #[] #[]) ∧ w1.cell? ⟨m, 0, none⟩ = some (.int .i64 x.f0) ∧ w1.cell? ⟨m, 1, none⟩ = some (.int .i64 x.f1) ∧ w1.cell? ⟨m, 2, none⟩ = some (.int .i64 x.f2) ∧ w1.cell? ⟨m, 3, none⟩ = some (.int .i64 x.f3)) (first | exact ⟨hcb, hci, hc0, hc1, hc2, hc3⟩ | exact (fun (hh : EnvG _ b i m v blocked x A c win) => ⟨hh.1, hh.2.1, hh.2.2.1, hh.2.2.2.1, hh.2.2.2.2.1, hh.2.2.2.2.2.1⟩) (HE.out.below z15) | fail)
    (first
    | (go_at_call 97; refine (f97_any x t _ HX.out h0 h1).mono ?_; rintro e w1 ⟨rfl, b1⟩; have B1 : Aside0 (Below w.heap.size w w1) := ⟨bSt z15 b1⟩; clear b1)
    | (go_at_call 87; refine (bits_callsM x HX.out _).mono ?_; rintro e w2 ⟨rfl, b2⟩; have B2 : Aside0 (Below w.heap.size w w2) := ⟨bSt z15 b2⟩; clear b2))
  (rename_i hHeld); clear hHeld hcb hci hc0 hc1 hc2 hc3 hcv; (have HB2 : Aside0 (EnvG w2 b i m v blocked x A c win) := ⟨HE.out.below B2.out⟩); (have hcv : w2.cell? ⟨v, 0, none⟩ = some (.slice A win.length c) := HB2.out.2.2.2.2.2.2.1); (have hm := mulBits (p := inst x t) (b := bitsM x) ((inst_bounds HX.out h0 h1).1) ((inst_bounds HX.out h0 h1).2) (bitsM_bounds HX.out).1 (bitsM_bounds HX.out).2); (have e1 : IntKind.i64.wrap (inst x t * bitsM x) = inst x t * bitsM x := IntWalk.i64_in _ z3); (have e2 : IntKind.i64.wrap (blocked + inst x t * bitsM x) = blocked + inst x t * bitsM x := IntWalk.i64_in _ z3); have HM := aM hm; have E1 := aM e1; have E2 := aM e2; clear hm e1 e2; go_wp2; rw [E1.out, E2.out]; (go_loopg [7, 21] win.length (fun gk v7 vi w' => ∃ k : Nat, v7 = .int .i64 (blocked + inst x t * bitsM x + sumI (fun o => inst o t * bitsM o) win k) ∧ vi = .int .i64 (k : Int) ∧ k ≤ win.length ∧ Aside0 (gk = win.length - k) ∧ Aside0 (EnvG w' b i m v blocked x A c win) ∧ Aside0 (Below w.heap.size w w'))); (case atStart => exact ⟨0, by simp [sumI], rfl, by omega, ⟨rfl⟩, HB2, B2⟩)
  case round =>
   clear HB2 B2; obtain ⟨k, rfl, rfl, hk, HK, HE2, HB⟩ := hrel; by_cases hlt : k < win.length; rotate_left
   · (obtain rfl : k = win.length := by omega); go_wp2; go_ret; (exact ⟨by unfold busyN; rfl, HB.out⟩)
   (have HO := aM (HWN.out k hlt)); (obtain ⟨ad, e0, hx0, hx1, hx2, hx3⟩ := at_T55 HE2.out.2.2.2.2.2.2.2.1 (k : Int) z3 z3); cases e0; simp only [Int.toNat_natCast] at hx0 hx1 hx2 hx3
   have hsum := sumI_bounds (fun o => inst o t * bitsM o) win 1400000000 z3 (fun k hk => by
     have h3 := HWN.out k hk
     have h4 := inst_bounds h3 h0 h1
     exact mulBits z3 h4.2 (bitsM_bounds h3).1 (bitsM_bounds h3).2) k hk
   (have HSUM : Aside0 (sumI (fun o => inst o t * bitsM o) win (k + 1) = sumI (fun o => inst o t * bitsM o) win k + (inst (rd_T55 win (k : Int)) t * bitsM (rd_T55 win (k : Int)))) := ⟨rfl⟩); (generalize rd_T55 win (k : Int) = o at HO HSUM hx0 hx1 hx2 hx3); (generalize sumI (fun o => inst o t * bitsM o) win k = sm at hsum HSUM ⊢)
   have hsb : 0 ≤ sm ∧ sm ≤ 11200000000 := by
     have : (k : Int) * 1400000000 ≤ 8 * 1400000000 := Int.mul_le_mul_of_nonneg_right z3 z3
     omega
   have HSB := aM hsb; clear hsum hsb; (go_upto_region 5 with (fail)); (have M0 : (wr.alloc (.cells #[.int .i64 o.f0, .int .i64 o.f1, .int .i64 o.f2, .int .i64 o.f3] 55)).heap[wr.heap.size]? = some (.cells #[.int .i64 o.f0, .int .i64 o.f1, .int .i64 o.f2, .int .i64 o.f3] 55 (0, 0)) := blk_new _ _); (have HB3 : Aside0 (Below w.heap.size w (wr.alloc (.cells #[.int .i64 o.f0, .int .i64 o.f1, .int .i64 o.f2, .int .i64 o.f3] 55))) := ⟨bAl HB.out _⟩); (have HE3 : Aside0 (EnvG (wr.alloc (.cells #[.int .i64 o.f0, .int .i64 o.f1, .int .i64 o.f2, .int .i64 o.f3] 55)) b i m v blocked x (some ad) c win) := ⟨HE2.out.below (bAl (Below.refl _ _) _)⟩); clear hx0 hx1 hx2 hx3 HB HE2; (generalize wr.alloc (.cells #[.int .i64 o.f0, .int .i64 o.f1, .int .i64 o.f2, .int .i64 o.f3] 55) = W at M0 HB3 HE3 ⊢); (generalize wr.heap.size = g at M0 ⊢); (have hg0 : W.cell? ⟨g, 0, none⟩ = some (.int .i64 o.f0) := (bCl M0 0).trans rfl); (have hg1 : W.cell? ⟨g, 1, none⟩ = some (.int .i64 o.f1) := (bCl M0 1).trans rfl); (have hg2 : W.cell? ⟨g, 2, none⟩ = some (.int .i64 o.f2) := (bCl M0 2).trans rfl); (have hg3 : W.cell? ⟨g, 3, none⟩ = some (.int .i64 o.f3) := (bCl M0 3).trans rfl); (have hci2 : W.cell? ⟨i, 0, none⟩ = some (.func (.func 97) #[] #[]) := HE3.out.2.1); (have HS0 : Aside0 (∀ W1, Below W.heap.size W W1 → (fun w1 => w1.cell? ⟨i, 0, none⟩ = some (.func (.func 97) #[] #[]) ∧ w1.cell? ⟨g, 0, none⟩ = some (.int .i64 o.f0) ∧ w1.cell? ⟨g, 1, none⟩ = some (.int .i64 o.f1) ∧ w1.cell? ⟨g, 2, none⟩ = some (.int .i64 o.f2) ∧ w1.cell? ⟨g, 3, none⟩ = some (.int .i64 o.f3)) W1) := ⟨fun W1 hb => ⟨HE3.out.below hb |>.2.1, (bCl (kBl M0 hb) 0).trans rfl, (bCl (kBl M0 hb) 1).trans rfl, (bCl (kBl M0 hb) 2).trans rfl, (bCl (kBl M0 hb) 3).trans rfl⟩⟩)
   clear M0
   go_region_held3 (fun w1 => w1.cell? ⟨i, 0, none⟩ = some (.func (.func 97) #[] #[]) ∧ w1.cell? ⟨g, 0, none⟩ = some (.int .i64 o.f0) ∧ w1.cell? ⟨g, 1, none⟩ = some (.int .i64 o.f1) ∧ w1.cell? ⟨g, 2, none⟩ = some (.int .i64 o.f2) ∧ w1.cell? ⟨g, 3, none⟩ = some (.int .i64 o.f3)) (first | exact ⟨hci2, hg0, hg1, hg2, hg3⟩ | exact HS0.out _ (by repeat (first | exact Below.refl _ _ | exact B4.out | exact B3.out | apply bAl | apply pBd | apply bD1)) | go_keep)
     (first
     | (go_at_call 97; refine (f97_any o t _ HO.out h0 h1).mono ?_; rintro e w3 ⟨rfl, b3⟩; have B3 : Aside0 (Below W.heap.size W w3) := ⟨bSt (by repeat (first | exact Below.refl _ _ | exact B4.out | exact B3.out | apply bAl | apply pBd | apply bD1)) b3⟩; clear b3)
     | (go_at_call 87; refine (bits_callsM o HO.out _).mono ?_; rintro e w4 ⟨rfl, b4⟩; have B4 : Aside0 (Below W.heap.size W w4) := ⟨bSt (by repeat (first | exact Below.refl _ _ | exact B4.out | exact B3.out | apply bAl | apply pBd | apply bD1)) b4⟩; clear b4))
   (rename_i hHeld); clear hHeld hg0 hg1 hg2 hg3 HS0 hci2; (have HE4 : Aside0 (EnvG w4 b i m v blocked x (some ad) c win) := ⟨HE3.out.below B4.out⟩); (have HB4 : Aside0 (Below w.heap.size w w4) := ⟨bSt HB3.out B4.out⟩); (have hm2 := mulBits (p := inst o t) (b := bitsM o) (by have := inst_bounds HO.out h0 h1; omega) (inst_bounds HO.out h0 h1).2 (bitsM_bounds HO.out).1 (bitsM_bounds HO.out).2); (have e3 : IntKind.i64.wrap (inst o t * bitsM o) = inst o t * bitsM o := IntWalk.i64_in _ z3); (have e4 : IntKind.i64.wrap (blocked + inst x t * bitsM x + sm + (inst o t * bitsM o)) = blocked + inst x t * bitsM x + sm + (inst o t * bitsM o) := IntWalk.i64_in _ (by have := HM.out; have := HSB.out; omega)); have E3 := aM e3; have E4 := aM e4; clear hm2 e3 e4; go_wp2; (go_roundg (win.length - (k + 1))); (case measure => have := HK.out; omega); (case rel => exact ⟨k + 1, by rw [HSUM.out, E3.out, E4.out]; congr 1; omega, by go_num, by omega, ⟨rfl⟩, HE4, HB4⟩)
set_option maxHeartbeats 2000000 in
set_option maxRecDepth 100000 in
theorem f100_any (b i m v : Nat) (qc : Nat) (q : Int) (blocked : Int) (x : S55) (A : Option Addr) (c : Nat) (win : List S55) (t : Int) (w : World) (h : EnvG w b i m v blocked x A c win) (hq : w.cell? ⟨qc, 0, none⟩ = some (.int .i64 q)) (hq0 : 0 ≤ q) (hq1 : q ≤ 10200000) (hx : okM x = true) (hw : ∀ k, k < win.length → okM (rd_T55 win (k : Int)) = true) (hn : win.length ≤ 8) (hb0 : 0 ≤ blocked) (hb1 : blocked ≤ 135) (h0 : 0 ≤ t) (h1 : t ≤ 10000000) :
    Calls Tryd.prog 100 #[.int .i64 t, .pointer (some ⟨b, 0, none⟩), .pointer (some ⟨qc, 0, none⟩), .pointer (some ⟨m, 0, none⟩), .pointer (some ⟨v, 0, none⟩)] w fun e w' => e = .returned (.int .i64 (waitN blocked q x win t)) ∧ Below w.heap.size w w' := by
  have hu55 := Tryd.underlying55; have HE := aM h; have HX := aM hx; have HWN := aM hw; (have HQ : Aside0 (∀ w1, Below w.heap.size w w1 → w1.cell? ⟨qc, 0, none⟩ = some (.int .i64 q)) := ⟨fun w1 hb => keepc hb hq⟩); have hcq := hq; obtain ⟨hcb, hci, hc0, hc1, hc2, hc3, hcv, -, -⟩ := h; clear hx hw hq; (go_enter Tryd.func100, Tryd.ntmps100); go_wp2
  go_region_held3 (fun w1 => w1.cell? ⟨b, 0, none⟩ = some (.int .i64 blocked) ∧ w1.cell? ⟨qc, 0, none⟩ = some (.int .i64 q) ∧ w1.cell? ⟨m, 0, none⟩ = some (.int .i64 x.f0) ∧ w1.cell? ⟨m, 1, none⟩ = some (.int .i64 x.f1) ∧ w1.cell? ⟨m, 2, none⟩ = some (.int .i64 x.f2) ∧ w1.cell? ⟨m, 3, none⟩ = some (.int .i64 x.f3)) (first | exact ⟨hcb, hcq, hc0, hc1, hc2, hc3⟩ | exact (fun (hh : EnvG _ b i m v blocked x A c win) hq => ⟨hh.1, hq, hh.2.2.1, hh.2.2.2.1, hh.2.2.2.2.1, hh.2.2.2.2.2.1⟩) (HE.out.below z15) (HQ.out _ z15) | fail)
    (first
    | (go_at_call 87; refine (bits_callsM x HX.out _).mono ?_; rintro e w2 ⟨rfl, b2⟩; have B2 : Aside0 (Below w.heap.size w w2) := ⟨bSt z15 b2⟩; clear b2))
  (rename_i hHeld); clear hHeld hcb hci hc0 hc1 hc2 hc3 hcv hcq; (have HB2 : Aside0 (EnvG w2 b i m v blocked x A c win) := ⟨HE.out.below B2.out⟩); (have hcv : w2.cell? ⟨v, 0, none⟩ = some (.slice A win.length c) := HB2.out.2.2.2.2.2.2.1); (have hm := mulBits (p := q) (b := bitsM x) (hq0) (hq1) (bitsM_bounds HX.out).1 (bitsM_bounds HX.out).2); (have e1 : IntKind.i64.wrap (q * bitsM x) = q * bitsM x := IntWalk.i64_in _ z3); (have e2 : IntKind.i64.wrap (blocked + q * bitsM x) = blocked + q * bitsM x := IntWalk.i64_in _ z3); have HM := aM hm; have E1 := aM e1; have E2 := aM e2; clear hm e1 e2; go_wp2; rw [E1.out, E2.out]; (go_loopg [7, 18] win.length (fun gk v7 vi w' => ∃ k : Nat, v7 = .int .i64 (blocked + q * bitsM x + sumI (fun o => instW o t * bitsM o) win k) ∧ vi = .int .i64 (k : Int) ∧ k ≤ win.length ∧ Aside0 (gk = win.length - k) ∧ Aside0 (EnvG w' b i m v blocked x A c win) ∧ Aside0 (Below w.heap.size w w'))); (case atStart => exact ⟨0, by simp [sumI], rfl, by omega, ⟨rfl⟩, HB2, B2⟩)
  case round =>
   clear HB2 B2; obtain ⟨k, rfl, rfl, hk, HK, HE2, HB⟩ := hrel; by_cases hlt : k < win.length; rotate_left
   · (obtain rfl : k = win.length := by omega); go_wp2; go_ret; (exact ⟨by unfold waitN; rfl, HB.out⟩)
   (have HO := aM (HWN.out k hlt)); (obtain ⟨ad, e0, hx0, hx1, hx2, hx3⟩ := at_T55 HE2.out.2.2.2.2.2.2.2.1 (k : Int) z3 z3); cases e0; simp only [Int.toNat_natCast] at hx0 hx1 hx2 hx3
   have hsum := sumI_bounds (fun o => instW o t * bitsM o) win 1400000000 z3 (fun k hk => by
     have h3 := HWN.out k hk
     have h4 := instW_bounds h3 h0 h1
     exact mulBits z3 h4.2 (bitsM_bounds h3).1 (bitsM_bounds h3).2) k hk
   (have HSUM : Aside0 (sumI (fun o => instW o t * bitsM o) win (k + 1) = sumI (fun o => instW o t * bitsM o) win k + (instW (rd_T55 win (k : Int)) t * bitsM (rd_T55 win (k : Int)))) := ⟨rfl⟩); (generalize rd_T55 win (k : Int) = o at HO HSUM hx0 hx1 hx2 hx3); (generalize sumI (fun o => instW o t * bitsM o) win k = sm at hsum HSUM ⊢)
   have hsb : 0 ≤ sm ∧ sm ≤ 11200000000 := by
     have : (k : Int) * 1400000000 ≤ 8 * 1400000000 := Int.mul_le_mul_of_nonneg_right z3 z3
     omega
   have HSB := aM hsb; clear hsum hsb; (go_upto_region 5 with (fail)); (have M0 : (wr.alloc (.cells #[.int .i64 o.f0, .int .i64 o.f1, .int .i64 o.f2, .int .i64 o.f3] 55)).heap[wr.heap.size]? = some (.cells #[.int .i64 o.f0, .int .i64 o.f1, .int .i64 o.f2, .int .i64 o.f3] 55 (0, 0)) := blk_new _ _); (have HB3 : Aside0 (Below w.heap.size w (wr.alloc (.cells #[.int .i64 o.f0, .int .i64 o.f1, .int .i64 o.f2, .int .i64 o.f3] 55))) := ⟨bAl HB.out _⟩); (have HE3 : Aside0 (EnvG (wr.alloc (.cells #[.int .i64 o.f0, .int .i64 o.f1, .int .i64 o.f2, .int .i64 o.f3] 55)) b i m v blocked x (some ad) c win) := ⟨HE2.out.below (bAl (Below.refl _ _) _)⟩); clear hx0 hx1 hx2 hx3 HB HE2; (generalize wr.alloc (.cells #[.int .i64 o.f0, .int .i64 o.f1, .int .i64 o.f2, .int .i64 o.f3] 55) = W at M0 HB3 HE3 ⊢); (generalize wr.heap.size = g at M0 ⊢); (have hg0 : W.cell? ⟨g, 0, none⟩ = some (.int .i64 o.f0) := (bCl M0 0).trans rfl); (have hg1 : W.cell? ⟨g, 1, none⟩ = some (.int .i64 o.f1) := (bCl M0 1).trans rfl); (have hg2 : W.cell? ⟨g, 2, none⟩ = some (.int .i64 o.f2) := (bCl M0 2).trans rfl); (have hg3 : W.cell? ⟨g, 3, none⟩ = some (.int .i64 o.f3) := (bCl M0 3).trans rfl); (have HS0 : Aside0 (∀ W1, Below W.heap.size W W1 → (fun w1 => w1.cell? ⟨g, 0, none⟩ = some (.int .i64 o.f0) ∧ w1.cell? ⟨g, 1, none⟩ = some (.int .i64 o.f1) ∧ w1.cell? ⟨g, 2, none⟩ = some (.int .i64 o.f2) ∧ w1.cell? ⟨g, 3, none⟩ = some (.int .i64 o.f3)) W1) := ⟨fun W1 hb => ⟨(bCl (kBl M0 hb) 0).trans rfl, (bCl (kBl M0 hb) 1).trans rfl, (bCl (kBl M0 hb) 2).trans rfl, (bCl (kBl M0 hb) 3).trans rfl⟩⟩)
   clear M0; (obtain ⟨_, _, _, _, ob1, ob2, ob3, ob4⟩ := okM_bounds HO.out); (have z0 : 0 ≤ t + o.f3 := by omega); (have hz : (o.f2 == 0) = false := beq_eq_false_iff_ne.mpr z3); (have hz2 : ¬ o.f2 = 0 := by omega); (have zd := ediv_le (t + o.f3) o.f2 z0 ob1); (have s2 : IntKind.i64.wrap ((t + o.f3) / o.f2) = (t + o.f3) / o.f2 := IntWalk.i64_in _ z3); (have s3 : IntKind.i64.wrap ((t + o.f3) / o.f2 + 1) = (t + o.f3) / o.f2 + 1 := IntWalk.i64_in _ z3); (have s1 : IntKind.i64.wrap (t + o.f3) = t + o.f3 := IntWalk.i64_in _ z3); clear zd ob2 ob3 ob4
   go_region_held3 (fun w1 => w1.cell? ⟨g, 0, none⟩ = some (.int .i64 o.f0) ∧ w1.cell? ⟨g, 1, none⟩ = some (.int .i64 o.f1) ∧ w1.cell? ⟨g, 2, none⟩ = some (.int .i64 o.f2) ∧ w1.cell? ⟨g, 3, none⟩ = some (.int .i64 o.f3)) (first | exact ⟨hg0, hg1, hg2, hg3⟩ | exact HS0.out _ (by repeat (first | exact Below.refl _ _ | exact B4.out | exact B3.out | apply bAl | apply pBd | apply bD1)) | go_keep)
     (first
     | (go_at_call 87; refine (bits_callsM o HO.out _).mono ?_; rintro e w4 ⟨rfl, b4⟩; have B4 : Aside0 (Below W.heap.size W w4) := ⟨bSt (by repeat (first | exact Below.refl _ _ | exact B4.out | exact B3.out | apply bAl | apply pBd | apply bD1)) b4⟩; clear b4))
   (rename_i hHeld); clear hHeld hg0 hg1 hg2 hg3 HS0; (have HE4 : Aside0 (EnvG w4 b i m v blocked x (some ad) c win) := ⟨HE3.out.below B4.out⟩); (have HB4 : Aside0 (Below w.heap.size w w4) := ⟨bSt HB3.out B4.out⟩); (have hm2 := mulBits (p := instW o t) (b := bitsM o) (by have := instW_bounds HO.out h0 h1; omega) (instW_bounds HO.out h0 h1).2 (bitsM_bounds HO.out).1 (bitsM_bounds HO.out).2); (have e3 : IntKind.i64.wrap (instW o t * bitsM o) = instW o t * bitsM o := IntWalk.i64_in _ z3); (have e4 : IntKind.i64.wrap (blocked + q * bitsM x + sm + (instW o t * bitsM o)) = blocked + q * bitsM x + sm + (instW o t * bitsM o) := IntWalk.i64_in _ (by have := HM.out; have := HSB.out; omega)); have E3 := aM e3; have E4 := aM e4
   have E5 : Aside0 (IntKind.i64.wrap (IntKind.i64.wrap ((t + o.f3).tdiv o.f2) + 1) = instW o t) := ⟨by
     obtain ⟨_, _, _, _, ob1, ob2, ob3, ob4⟩ := okM_bounds HO.out
     have zd := ediv_le (t + o.f3) o.f2 z3 ob1
     rw [Int.tdiv_eq_ediv_of_nonneg z3, IntWalk.i64_in ((t + o.f3) / o.f2) z3, IntWalk.i64_in _ z3]; rfl⟩
   clear hm2 e3 e4; go_wp2; (go_roundg (win.length - (k + 1))); (case measure => have := HK.out; omega); (case rel => exact ⟨k + 1, by rw [HSUM.out, E5.out, E3.out, E4.out]; congr 1; omega, by go_num, by omega, ⟨rfl⟩, HE4, HB4⟩)
def fixF (g : Int → Int) : Nat → Int → Option (Int × Bool)
  | 0, _ => none
  | k + 1, t => if 10000000 < g t then some (0, false) else if g t = t then some (t, true) else fixF g k (g t)
theorem sum_nonneg (f : S55 → Int) (l : List S55) (h : ∀ i, i < l.length → 0 ≤ f (rd_T55 l (i : Int))) : ∀ i : Nat, i ≤ l.length → 0 ≤ sumI f l i
  | 0, _ => by simp [sumI]
  | i + 1, hi => by
    have h1 := sum_nonneg f l h i z3
    have h2 := h i z3
    simp only [sumI]; omega
theorem busyN_nonneg {blocked : Int} {x : S55} {win : List S55} {t : Int} (hx : okM x = true) (hw : ∀ k, k < win.length → okM (rd_T55 win (k : Int)) = true) (hb0 : 0 ≤ blocked) (h0 : 0 ≤ t) (h1 : t ≤ 10000000) : 0 ≤ busyN blocked x win t := by
  have a := inst_bounds hx h0 h1
  have b := mulBits a.1 a.2 (bitsM_bounds hx).1 (bitsM_bounds hx).2
  have c := sum_nonneg (fun o => inst o t * bitsM o) win (fun i hi => by
    have h3 := hw i hi
    have h4 := inst_bounds h3 h0 h1
    exact (mulBits h4.1 h4.2 (bitsM_bounds h3).1 (bitsM_bounds h3).2).1) win.length (Nat.le_refl _)
  unfold busyN; omega
theorem waitN_nonneg {blocked q : Int} {x : S55} {win : List S55} {t : Int} (hx : okM x = true) (hw : ∀ k, k < win.length → okM (rd_T55 win (k : Int)) = true) (hb0 : 0 ≤ blocked) (hq0 : 0 ≤ q) (hq1 : q ≤ 10200000) (h0 : 0 ≤ t) (h1 : t ≤ 10000000) : 0 ≤ waitN blocked q x win t := by
  have b := mulBits hq0 hq1 (bitsM_bounds hx).1 (bitsM_bounds hx).2
  have c := sum_nonneg (fun o => instW o t * bitsM o) win (fun i hi => by
    have h3 := hw i hi
    have h4 := instW_bounds h3 h0 h1
    exact (mulBits z3 h4.2 (bitsM_bounds h3).1 (bitsM_bounds h3).2).1) win.length (Nat.le_refl _)
  unfold waitN; omega
set_option maxHeartbeats 800000 in
set_option maxRecDepth 100000 in
theorem fixed99 (k b i m v : Nat) (blocked : Int) (x : S55) (A : Option Addr) (c : Nat) (win : List S55) (t r : Int) (ok : Bool) (w : World) (h : EnvG w b i m v blocked x A c win) (hx : okM x = true) (hw : ∀ k, k < win.length → okM (rd_T55 win (k : Int)) = true) (hn : win.length ≤ 8) (hb0 : 0 ≤ blocked) (hb1 : blocked ≤ 135) (h0 : 0 ≤ t) (h1 : t ≤ 10000000) (hf : fixF (busyN blocked x win) k t = some (r, ok)) :
    Calls Tryd.prog 98 #[.int .i64 t, .func (.func 99) #[] #[.pointer (some ⟨b, 0, none⟩), .pointer (some ⟨i, 0, none⟩), .pointer (some ⟨m, 0, none⟩), .pointer (some ⟨v, 0, none⟩)]] w fun e w' => e = .returned (.tuple #[.int .i64 r, .bool ok]) ∧ Below w.heap.size w w' := by
  have HE := aM h; have HX := aM hx; have HWN := aM hw; have HF := aM hf; (have H01 := aM (⟨h0, h1⟩ : _ ∧ _)); (have HBR := aM (Below.refl w.heap.size w)); clear h hx hw hf h0 h1; (go_enter Tryd.func98, Tryd.ntmps98); go_wp2; (go_loopg [0] k (fun gk v0 w' => ∃ t : Int, v0 = .int .i64 t ∧ 0 ≤ t ∧ t ≤ 10000000 ∧ Aside0 (fixF (busyN blocked x win) gk t = some (r, ok)) ∧ Aside0 (EnvG w' b i m v blocked x A c win) ∧ Aside0 (Below w.heap.size w w'))); (case atStart => exact ⟨t, rfl, H01.out.1, H01.out.2, HF, HE, HBR⟩)
  case round =>
   clear HF HE HBR H01; obtain ⟨t, rfl, h2, h3, HF, HE, HB⟩ := hrel
   cases gk with
   | zero => exact absurd HF.out (by simp [fixF])
   | succ gk =>
    have h := HF.out; rw [fixF] at h; (have hnn := busyN_nonneg HX.out HWN.out hb0 h2 h3); (have HC : Aside0 (Calls Tryd.prog 99 #[.int .i64 t, .pointer (some ⟨b, 0, none⟩), .pointer (some ⟨i, 0, none⟩), .pointer (some ⟨m, 0, none⟩), .pointer (some ⟨v, 0, none⟩)] wr fun e w' => e = .returned (.int .i64 (busyN blocked x win t)) ∧ Below wr.heap.size wr w') := ⟨f99_any b i m v blocked x A c win t _ HE.out HX.out HWN.out hn hb0 hb1 h2 h3⟩); (generalize busyN blocked x win t = nx at h hnn HC); by_cases c1 : 10000000 < nx
    · rw [if_pos c1] at h; (obtain ⟨rfl, rfl⟩ := Prod.mk.inj (sI h)); (have t1 := dT c1); clear h c1 HF; (go_wp2_with (first | (go_at_call 99; refine HC.out.mono ?_; rintro e w3 ⟨rfl, b3⟩; replace b3 := aM b3))); go_ret2; (exact ⟨rfl, bSt HB.out b3.out⟩)
    rw [if_neg c1] at h; (have t1 := dF c1); by_cases c2 : nx = t
    · rw [if_pos c2] at h; (obtain ⟨rfl, rfl⟩ := Prod.mk.inj (sI h)); subst c2; clear h c1 HF; (go_wp2_with (first | (go_at_call 99; refine HC.out.mono ?_; rintro e w3 ⟨rfl, b3⟩; replace b3 := aM b3))); go_ret2; (exact ⟨rfl, bSt HB.out b3.out⟩)
    rw [if_neg c2] at h; (have t2 : (nx == t) = false := beq_eq_false_iff_ne.mpr c2); have H' := aM h; (have c1' : nx ≤ 10000000 := by omega); clear h c1 c2 HF; (go_wp2_with (first | (go_at_call 99; refine HC.out.mono ?_; rintro e w3 ⟨rfl, b3⟩; replace b3 := aM b3))); (go_roundg gk); (case measure => omega); (case rel => exact ⟨nx, rfl, hnn, c1', H', ⟨HE.out.below b3.out⟩, ⟨bSt HB.out b3.out⟩⟩)
set_option maxHeartbeats 800000 in
set_option maxRecDepth 100000 in
theorem fixed100 (k b i m v : Nat) (qc : Nat) (q : Int) (blocked : Int) (x : S55) (A : Option Addr) (c : Nat) (win : List S55) (t r : Int) (ok : Bool) (w : World) (h : EnvG w b i m v blocked x A c win) (hq : w.cell? ⟨qc, 0, none⟩ = some (.int .i64 q)) (hq0 : 0 ≤ q) (hq1 : q ≤ 10200000) (hx : okM x = true) (hw : ∀ k, k < win.length → okM (rd_T55 win (k : Int)) = true) (hn : win.length ≤ 8) (hb0 : 0 ≤ blocked) (hb1 : blocked ≤ 135) (h0 : 0 ≤ t) (h1 : t ≤ 10000000) (hf : fixF (waitN blocked q x win) k t = some (r, ok)) :
    Calls Tryd.prog 98 #[.int .i64 t, .func (.func 100) #[] #[.pointer (some ⟨b, 0, none⟩), .pointer (some ⟨qc, 0, none⟩), .pointer (some ⟨m, 0, none⟩), .pointer (some ⟨v, 0, none⟩)]] w fun e w' => e = .returned (.tuple #[.int .i64 r, .bool ok]) ∧ Below w.heap.size w w' := by
  have HE := aM h; have HX := aM hx; have HWN := aM hw; have HF := aM hf; (have H01 := aM (⟨h0, h1⟩ : _ ∧ _)); (have HBR := aM (Below.refl w.heap.size w)); (have HQ : Aside0 (∀ w1, Below w.heap.size w w1 → w1.cell? ⟨qc, 0, none⟩ = some (.int .i64 q)) := ⟨fun w1 hb => keepc hb hq⟩); clear hq; clear h hx hw hf h0 h1; (go_enter Tryd.func98, Tryd.ntmps98); go_wp2; (go_loopg [0] k (fun gk v0 w' => ∃ t : Int, v0 = .int .i64 t ∧ 0 ≤ t ∧ t ≤ 10000000 ∧ Aside0 (fixF (waitN blocked q x win) gk t = some (r, ok)) ∧ Aside0 (EnvG w' b i m v blocked x A c win) ∧ Aside0 (Below w.heap.size w w'))); (case atStart => exact ⟨t, rfl, H01.out.1, H01.out.2, HF, HE, HBR⟩)
  case round =>
   clear HF HE HBR H01; obtain ⟨t, rfl, h2, h3, HF, HE, HB⟩ := hrel
   cases gk with
   | zero => exact absurd HF.out (by simp [fixF])
   | succ gk =>
    have h := HF.out; rw [fixF] at h; (have hnn := waitN_nonneg HX.out HWN.out hb0 hq0 hq1 h2 h3); (have HC : Aside0 (Calls Tryd.prog 100 #[.int .i64 t, .pointer (some ⟨b, 0, none⟩), .pointer (some ⟨qc, 0, none⟩), .pointer (some ⟨m, 0, none⟩), .pointer (some ⟨v, 0, none⟩)] wr fun e w' => e = .returned (.int .i64 (waitN blocked q x win t)) ∧ Below wr.heap.size wr w') := ⟨f100_any b i m v qc q blocked x A c win t _ HE.out (HQ.out _ HB.out) hq0 hq1 HX.out HWN.out hn hb0 hb1 h2 h3⟩); (generalize waitN blocked q x win t = nx at h hnn HC); by_cases c1 : 10000000 < nx
    · rw [if_pos c1] at h; (obtain ⟨rfl, rfl⟩ := Prod.mk.inj (sI h)); (have t1 := dT c1); clear h c1 HF; (go_wp2_with (first | (go_at_call 100; refine HC.out.mono ?_; rintro e w3 ⟨rfl, b3⟩; replace b3 := aM b3))); go_ret2; (exact ⟨rfl, bSt HB.out b3.out⟩)
    rw [if_neg c1] at h; (have t1 := dF c1); by_cases c2 : nx = t
    · rw [if_pos c2] at h; (obtain ⟨rfl, rfl⟩ := Prod.mk.inj (sI h)); subst c2; clear h c1 HF; (go_wp2_with (first | (go_at_call 100; refine HC.out.mono ?_; rintro e w3 ⟨rfl, b3⟩; replace b3 := aM b3))); go_ret2; (exact ⟨rfl, bSt HB.out b3.out⟩)
    rw [if_neg c2] at h; (have t2 : (nx == t) = false := beq_eq_false_iff_ne.mpr c2); have H' := aM h; (have c1' : nx ≤ 10000000 := by omega); clear h c1 c2 HF; (go_wp2_with (first | (go_at_call 100; refine HC.out.mono ?_; rintro e w3 ⟨rfl, b3⟩; replace b3 := aM b3))); (go_roundg gk); (case measure => omega); (case rel => exact ⟨nx, rfl, hnn, c1', H', ⟨HE.out.below b3.out⟩, ⟨bSt HB.out b3.out⟩⟩)
end Go.Proofs.YtbanemecfobonaaDoor.B
namespace Go.Proofs.YtbanemecfobonaaDoor.B
open Go.RowKit Go.Proofs.YtbanemecfobonaaDoorW.PrintWords Go.Proofs.YtbanemecfobonaaDoorW.PrintLast Go.Proofs.YtbanemecfobonaaDoorW.PrintMore
attribute [local go_sem] max2_int max_two
set_option linter.unusedVariables false
set_option linter.unusedSimpArgs false
def maxTo (l : List S55) : Nat → Int
  | 0 => 0
  | i + 1 => max (maxTo l i) (bitsM (rd_T55 l (i : Int)))
def waitTo (k : Nat) (blocked : Int) (x : S55) (win : List S55) : Nat → Int → Int → Int → Option (Int × Bool)
  | 0, q, v, worst => some (worst, true)
  | n + 1, q, v, worst => (fixF (waitN blocked q x win) k v).bind fun s =>
      if s.2 = false ∨ 10000000 < max worst (x.f3 + s.1 - q * x.f2 + bitsM x) then some (0, false) else waitTo k blocked x win n (q + 1) s.1 (max worst (x.f3 + s.1 - q * x.f2 + bitsM x))
def fullC (k : Nat) (l : List S55) : Option Int :=
  (bus_share.f k l).bind fun s => (big_of.f k 1).bind fun n => (ratSet (divG k) k k n n).bind fun u => ratCmp k s.1 s.2 u.1 u.2
def delayF (k : Nat) (x : S55) (win lose : List S55) : Option (Int × Bool) :=
  (fullC k ([x] ++ win)).bind fun c => if 0 ≤ c then some (0, false) else
    (fixF (busyN (maxTo lose lose.length) x win) k 1).bind fun s => if s.2 = false then some (0, false) else
      waitTo k (maxTo lose lose.length) x win (inst x s.1).toNat 0 0 0
theorem maxTo_bounds (l : List S55) (h : ∀ i, i < l.length → okM (rd_T55 l (i : Int)) = true) : ∀ i : Nat, i ≤ l.length → 0 ≤ maxTo l i ∧ maxTo l i ≤ 135
  | 0, _ => by simp [maxTo]
  | i + 1, hi => by
    have h1 := maxTo_bounds l h i z3
    have h2 := bitsM_bounds (h i z3)
    simp only [maxTo]; omega
theorem fixF_bounds (g : Int → Int) (hg : ∀ t, 0 ≤ t → t ≤ 10000000 → 0 ≤ g t) : ∀ (k : Nat) (t r : Int), 0 ≤ t → t ≤ 10000000 → fixF g k t = some (r, true) → 0 ≤ r ∧ r ≤ 10000000 ∧ g r = r
  | 0, t, r, _, _, h => by simp [fixF] at h
  | k + 1, t, r, h0, h1, h => by
    rw [fixF] at h
    by_cases c1 : 10000000 < g t
    · rw [if_pos c1] at h; simp at h
    · rw [if_neg c1] at h
      by_cases c2 : g t = t
      · rw [if_pos c2] at h
        obtain rfl : t = r := by simpa using h
        exact ⟨h0, h1, c2⟩
      · rw [if_neg c2] at h
        exact fixF_bounds g hg k (g t) r (hg t h0 h1) z3 h
theorem fixF_false (g : Int → Int) : ∀ (k : Nat) (t r : Int), fixF g k t = some (r, false) → r = 0
  | 0, t, r, h => by simp [fixF] at h
  | k + 1, t, r, h => by
    rw [fixF] at h
    split at h
    · simpa using h.symm
    · split at h
      · simp at h
      · exact fixF_false g k _ r h
theorem fixF_range (g : Int → Int) (hg : ∀ t, 0 ≤ t → t ≤ 10000000 → 0 ≤ g t) (k : Nat) (t r : Int) (ok : Bool) (h0 : 0 ≤ t) (h1 : t ≤ 10000000) (h : fixF g k t = some (r, ok)) : 0 ≤ r ∧ r ≤ 10000000 := by
  cases ok
  · have : r = 0 := fixF_false g k t r h
    omega
  · have := fixF_bounds g hg k t r h0 h1 h
    exact ⟨this.1, this.2.1⟩
theorem lit55 (w : World) (x : S55) : Kd.R k55 55 (w.alloc (.cells #[.int .i64 x.f0, .int .i64 x.f1, .int .i64 x.f2, .int .i64 x.f3] 55)) w.heap.size (fun _ => True) (.slice (some ⟨w.heap.size, 0, none⟩) 1 1) [x] :=
  ⟨fun _ _ => trivial, OwnRow.lit (size := 4) w w.heap.size (inner := [.int .i64 x.f0, .int .i64 x.f1, .int .i64 x.f2, .int .i64 x.f3]) (Reps.c4 (k55_mkM _ _ _ x) (Reps.none _ _)) (Nat.le_refl _) (by simp)⟩
set_option maxHeartbeats 4000000 in
set_option maxRecDepth 100000 in
theorem bus_delay.calls (k : Nat) (x : S55) (A1 A2 : Option Addr) (c1 c2 : Nat) (win lose : List S55) (r : Int) (ok : Bool) (w : World) (hr1 : Kd.C k55 w A1 win.length win) (hc1 : win.length ≤ c1) (hr2 : Kd.C k55 w A2 lose.length lose) (hc2 : lose.length ≤ c2)
    (hx : okM x = true) (hw : ∀ i, i < win.length → okM (rd_T55 win (i : Int)) = true) (hl : ∀ i, i < lose.length → okM (rd_T55 lose (i : Int)) = true) (hn : win.length ≤ 8) (hn2 : lose.length ≤ 8) (h : delayF k x win lose = some (r, ok)) :
    Calls Tryd.prog 67 #[.agg #[.int .i64 x.f0, .int .i64 x.f1, .int .i64 x.f2, .int .i64 x.f3], .slice A1 win.length c1, .slice A2 lose.length c2] w fun e w' => e = .returned (.tuple #[.int .i64 r, .bool ok]) ∧ Below w.heap.size w w' := by
  have hu55 := Tryd.underlying55; (obtain ⟨c, hc, h⟩ := oB h); (obtain ⟨⟨s1, s2⟩, hs, hc⟩ := oB hc); (obtain ⟨n1, hn1, hc⟩ := oB hc); (obtain ⟨⟨u1, u2⟩, hu, hc⟩ := oB hc); have HS := aM hs; have HN := aM hn1; have HU := aM hu; have HC := aM hc; have HX := aM hx; have HWN := aM hw; have HLO := aM hl; (have HR1 := aM (⟨hr1, hc1⟩ : _ ∧ _)); (have HR2 := aM (⟨hr2, hc2⟩ : _ ∧ _)); (have HB2 : Aside0 (Below w.heap.size w ((w.alloc (.cells #[.int .i64 x.f0, .int .i64 x.f1, .int .i64 x.f2, .int .i64 x.f3] 55)).alloc (.cells #[.slice A1 win.length c1] 46))) := ⟨bAl (bAl (Below.refl _ _) _) _⟩); (have HB3 : Aside0 (Below w.heap.size w (((w.alloc (.cells #[.int .i64 x.f0, .int .i64 x.f1, .int .i64 x.f2, .int .i64 x.f3] 55)).alloc (.cells #[.slice A1 win.length c1] 46)).alloc (.cells #[.int .i64 x.f0, .int .i64 x.f1, .int .i64 x.f2, .int .i64 x.f3] 55))) := ⟨bAl (bAl (bAl (Below.refl _ _) _) _) _⟩); (have e1 : (w.alloc (.cells #[.int .i64 x.f0, .int .i64 x.f1, .int .i64 x.f2, .int .i64 x.f3] 55)).heap.size = w.heap.size + 1 := World.size_alloc w _); (have e2 : ((w.alloc (.cells #[.int .i64 x.f0, .int .i64 x.f1, .int .i64 x.f2, .int .i64 x.f3] 55)).alloc (.cells #[.slice A1 win.length c1] 46)).heap.size = w.heap.size + 1 + 1 := by rw [World.size_alloc, e1])
  have HLIT : Aside0 (Kd.R k55 55 (((w.alloc (.cells #[.int .i64 x.f0, .int .i64 x.f1, .int .i64 x.f2, .int .i64 x.f3] 55)).alloc (.cells #[.slice A1 win.length c1] 46)).alloc (.cells #[.int .i64 x.f0, .int .i64 x.f1, .int .i64 x.f2, .int .i64 x.f3] 55)) w.heap.size (fun _ => True) (.slice (some ⟨w.heap.size + 1 + 1, 0, none⟩) 1 1) [x]) := ⟨by
    have := Kd.R_lower (lit55 ((w.alloc (.cells #[.int .i64 x.f0, .int .i64 x.f1, .int .i64 x.f2, .int .i64 x.f3] 55)).alloc (.cells #[.slice A1 win.length c1] 46)) x) (Nat.le_trans (Nat.le_add_right _ 2) (Nat.le_of_eq e2.symm))
    rw [e2] at this
    exact this⟩
  (have HBM : Aside0 ((((w.alloc (.cells #[.int .i64 x.f0, .int .i64 x.f1, .int .i64 x.f2, .int .i64 x.f3] 55)).alloc (.cells #[.slice A1 win.length c1] 46)).alloc (.cells #[.int .i64 x.f0, .int .i64 x.f1, .int .i64 x.f2, .int .i64 x.f3] 55)).heap[w.heap.size]? = some (.cells #[.int .i64 x.f0, .int .i64 x.f1, .int .i64 x.f2, .int .i64 x.f3] 55 (0, 0))) := ⟨kAl (kAl (blk_new w _) _) _⟩); (have HBV : Aside0 ((((w.alloc (.cells #[.int .i64 x.f0, .int .i64 x.f1, .int .i64 x.f2, .int .i64 x.f3] 55)).alloc (.cells #[.slice A1 win.length c1] 46)).alloc (.cells #[.int .i64 x.f0, .int .i64 x.f1, .int .i64 x.f2, .int .i64 x.f3] 55)).heap[w.heap.size + 1]? = some (.cells #[.slice A1 win.length c1] 46 (0, 0))) := ⟨kAl (e1 ▸ blk_new (w.alloc (.cells #[.int .i64 x.f0, .int .i64 x.f1, .int .i64 x.f2, .int .i64 x.f3] 55)) _) _⟩); clear hs hn1 hu hc hx hw hl hr1 hc1 hr2 hc2 e1 e2; by_cases hc0 : 0 ≤ c
  · rw [if_pos hc0] at h; (obtain ⟨rfl, rfl⟩ := Prod.mk.inj (sI h)); (have t1 : decide (0 ≤ c) = true := dT hc0); clear h hc0; (go_enter Tryd.func67, Tryd.ntmps67)
    go_wp2_with (first
      | ((with_reducible refine gate_builtin (b := .append) (xs := #[.tmp 18, .tmp 19]) rfl ?_); at_builtin; refine Kd.R_append_rows k55 (w0 := w) w.heap.size rfl (.tmp 18) (.tmp 19) 46 55 (.agg #[(.int .i64 0), (.int .i64 0), (.int .i64 0), (.int .i64 0)]) 32 rfl Tryd.underlying46 info55 rfl z9 z3 (.slice (some ⟨w.heap.size + 1 + 1, 0, none⟩) 1 1) [x] win _ _ _ (fun _ => True) (fun _ => False) rfl rfl ?aO ?aR (fun _ _ h => h) (fun _ h => h.elim) ?aF ?aB ?aS ?aL ?_; (case aR => exact Kd.C_below HR1.out.1 HB3.out); (case aB => exact HB3.out); (case aF => exact (fun _ _ => trivial)); (case aO => exact HLIT.out); (case aS => exact HB3.out.size); (case aL => simp only [List.length_cons, List.length_nil]; omega); intro v1 w4 ho hb hg hat; obtain ⟨Aa, ca, rfl, hca, hra⟩ := Kd.R_reads ho; have B4 := aM hb; have RA := aM (⟨hra, hca⟩ : _ ∧ _); have BM4 := aM (blk_grown HBM.out hg (by simp [Value.ownBlock]; try omega)); have BV4 := aM (blk_grown HBV.out hg (by simp [Value.ownBlock]; try omega)); clear ho hb hg hat hra hca)
      | (go_at_call 69; (with_reducible refine (bus_share.callsN k Aa ca (win.length + 1) ([x] ++ win) s1 s2 w4 ?q1 ?q2 ?q3 HS.out).mono ?_); (case q1 => exact RA.out.1); (case q2 => exact RA.out.2); (case q3 => simp); rintro e w5 ⟨g5, rfl, sz5, b5, r5⟩; have B5 := aM b5; have R5 := aM r5; clear sz5 b5 r5)
      | (go_at_call 70; (with_reducible refine (big_NewInt.calls2 k 1 n1 w5 (w5.alloc (.cells #[.bool false, .slice none 0 0, .slice none 0 0] 123)) z9 HN.out z9 (bAl (Below.refl _ _) _)).mono ?_); rintro e w6 ⟨g6, rfl, s6, b6, B6, f6⟩; replace b6 := aM b6; replace B6 := aM B6; replace f6 := aM f6; clear s6)
      | (go_at_call 70; (with_reducible refine (big_NewInt.calls2 k 1 n1 w5 w6 z9 HN.out z9 B6.out).mono ?_); rintro e w7 ⟨g7, rfl, s7, b7, B7, f7⟩; replace b7 := aM b7; replace B7 := aM B7; replace f7 := aM f7; clear s7)
      | (go_at_call 96; refine (big_Rat_SetFrac.calls (divG k) (divG_ok k) k k w5.heap.size g6 g7 (.bool false) (.slice none 0 0) (.slice none 0 0) n1 n1 u1 u2 _ (((Z3.new w5).below b6.out).below b7.out) (f6.out.below b7.out).int f7.out.int HU.out).mono ?_; rintro e w8 ⟨rfl, o8, r8⟩; have B8 : Aside0 (Below w5.heap.size w5 w8) := ⟨o8.below B7.out (Nat.le_refl _)⟩; replace r8 := aM r8; clear o8)
      | (go_at_call 95; refine (big_Rat_Cmp.calls k g5 w5.heap.size s1 s2 u1 u2 c _ (R5.out.below B8.out) r8.out HC.out).mono ?_; rintro e w9 ⟨rfl, b9⟩; have B9 := aM (bSt B8.out b9); clear b9))
    go_ret2; (exact ⟨rfl, bSt B4.out (bSt B5.out B9.out)⟩)
  rw [if_neg hc0] at h; (obtain ⟨⟨busy, bk⟩, hbz, h⟩ := oB h); (dsimp only at h); have HBZ := aM hbz; have HH := aM h; (have t1 : decide (0 ≤ c) = false := dF hc0); clear h hc0 hbz; (go_enter Tryd.func67, Tryd.ntmps67)
  go_wp2_with (first
    | ((with_reducible refine gate_builtin (b := .append) (xs := #[.tmp 18, .tmp 19]) rfl ?_); at_builtin; refine Kd.R_append_rows k55 (w0 := w) w.heap.size rfl (.tmp 18) (.tmp 19) 46 55 (.agg #[(.int .i64 0), (.int .i64 0), (.int .i64 0), (.int .i64 0)]) 32 rfl Tryd.underlying46 info55 rfl z9 z3 (.slice (some ⟨w.heap.size + 1 + 1, 0, none⟩) 1 1) [x] win _ _ _ (fun _ => True) (fun _ => False) rfl rfl ?aO ?aR (fun _ _ h => h) (fun _ h => h.elim) ?aF ?aB ?aS ?aL ?_; (case aR => exact Kd.C_below HR1.out.1 HB3.out); (case aB => exact HB3.out); (case aF => exact (fun _ _ => trivial)); (case aO => exact HLIT.out); (case aS => exact HB3.out.size); (case aL => simp only [List.length_cons, List.length_nil]; omega); intro v1 w4 ho hb hg hat; obtain ⟨Aa, ca, rfl, hca, hra⟩ := Kd.R_reads ho; have B4 := aM hb; have RA := aM (⟨hra, hca⟩ : _ ∧ _); have BM4 := aM (blk_grown HBM.out hg (by simp [Value.ownBlock]; try omega)); have BV4 := aM (blk_grown HBV.out hg (by simp [Value.ownBlock]; try omega)); clear ho hb hg hat hra hca)
    | (go_at_call 69; (with_reducible refine (bus_share.callsN k Aa ca (win.length + 1) ([x] ++ win) s1 s2 w4 ?q1 ?q2 ?q3 HS.out).mono ?_); (case q1 => exact RA.out.1); (case q2 => exact RA.out.2); (case q3 => simp); rintro e w5 ⟨g5, rfl, sz5, b5, r5⟩; have B5 := aM b5; have R5 := aM r5; clear sz5 b5 r5)
    | (go_at_call 70; (with_reducible refine (big_NewInt.calls2 k 1 n1 w5 (w5.alloc (.cells #[.bool false, .slice none 0 0, .slice none 0 0] 123)) z9 HN.out z9 (bAl (Below.refl _ _) _)).mono ?_); rintro e w6 ⟨g6, rfl, s6, b6, B6, f6⟩; replace b6 := aM b6; replace B6 := aM B6; replace f6 := aM f6; clear s6)
    | (go_at_call 70; (with_reducible refine (big_NewInt.calls2 k 1 n1 w5 w6 z9 HN.out z9 B6.out).mono ?_); rintro e w7 ⟨g7, rfl, s7, b7, B7, f7⟩; replace b7 := aM b7; replace B7 := aM B7; replace f7 := aM f7; clear s7)
    | (go_at_call 96; refine (big_Rat_SetFrac.calls (divG k) (divG_ok k) k k w5.heap.size g6 g7 (.bool false) (.slice none 0 0) (.slice none 0 0) n1 n1 u1 u2 _ (((Z3.new w5).below b6.out).below b7.out) (f6.out.below b7.out).int f7.out.int HU.out).mono ?_; rintro e w8 ⟨rfl, o8, r8⟩; have B8 : Aside0 (Below w5.heap.size w5 w8) := ⟨o8.below B7.out (Nat.le_refl _)⟩; replace r8 := aM r8; clear o8)
    | (go_at_call 95; refine (big_Rat_Cmp.calls k g5 w5.heap.size s1 s2 u1 u2 c _ (R5.out.below B8.out) r8.out HC.out).mono ?_; rintro e w9 ⟨rfl, b9⟩; have B9 := aM (bSt B8.out b9); clear b9))
  (have B9w : Aside0 (Below w.heap.size w w9) := ⟨bSt B4.out (bSt B5.out B9.out)⟩); (have BM9 : Aside0 (w9.heap[w.heap.size]? = some (.cells #[.int .i64 x.f0, .int .i64 x.f1, .int .i64 x.f2, .int .i64 x.f3] 55 (0, 0))) := ⟨kBl BM4.out (bSt B5.out B9.out)⟩); (have BV9 : Aside0 (w9.heap[w.heap.size + 1]? = some (.cells #[.slice A1 win.length c1] 46 (0, 0))) := ⟨kBl BV4.out (bSt B5.out B9.out)⟩); (have L0 : Aside0 ((w9.alloc (.cells #[.int .i64 0] 3)).heap[w9.heap.size]? = some (.cells #[.int .i64 (maxTo lose 0)] 3 (0, 0))) := ⟨blk_new _ _⟩); (have BL0 : Aside0 (Below w9.heap.size w9 (w9.alloc (.cells #[.int .i64 0] 3))) := ⟨bAl (Below.refl _ _) _⟩); clear B4 B5 B9 RA BM4 BV4 R5 b6 B6 f6 b7 B7 f7 B8 r8 HLIT HBM HBV HB2 HB3; (have hlo : (lose.length : Int) ≤ 9223372036854775807 := by omega); (go_loopg [30] lose.length (fun gk v30 w' => ∃ i : Nat, v30 = .int .i64 (i : Int) ∧ i ≤ lose.length ∧ Aside0 (gk = lose.length - i) ∧ Aside0 (w'.heap[w9.heap.size]? = some (.cells #[.int .i64 (maxTo lose i)] 3 (0, 0))) ∧ Aside0 (Below w9.heap.size w9 w'))); (case atStart => exact ⟨0, rfl, by omega, ⟨rfl⟩, L0, BL0⟩)
  case round =>
   clear L0 BL0; obtain ⟨i, rfl, hi, HK, L0, BL0⟩ := hrel; by_cases hlt : i < lose.length
   · (have HO := aM (HLO.out i hlt)); (obtain ⟨ad, e0, hx0, hx1, hx2, hx3⟩ := at_T55 (Kd.C_below (Kd.C_below HR2.out.1 B9w.out) BL0.out) (i : Int) z3 z3); cases e0; simp only [Int.toNat_natCast] at hx0 hx1 hx2 hx3; (have HMX : Aside0 (maxTo lose (i + 1) = max (maxTo lose i) (bitsM (rd_T55 lose (i : Int)))) := ⟨rfl⟩); (generalize rd_T55 lose (i : Int) = o at HO HMX hx0 hx1 hx2 hx3); (generalize maxTo lose i = mx at HMX L0 ⊢); (go_upto_region 7 with (fail)); (have M0 : (wr.alloc (.cells #[.int .i64 o.f0, .int .i64 o.f1, .int .i64 o.f2, .int .i64 o.f3] 55)).heap[wr.heap.size]? = some (.cells #[.int .i64 o.f0, .int .i64 o.f1, .int .i64 o.f2, .int .i64 o.f3] 55 (0, 0)) := blk_new _ _); (have L1 : Aside0 ((wr.alloc (.cells #[.int .i64 o.f0, .int .i64 o.f1, .int .i64 o.f2, .int .i64 o.f3] 55)).heap[w9.heap.size]? = some (.cells #[.int .i64 mx] 3 (0, 0))) := ⟨kAl L0.out _⟩); (have BL1 : Aside0 (Below w9.heap.size w9 (wr.alloc (.cells #[.int .i64 o.f0, .int .i64 o.f1, .int .i64 o.f2, .int .i64 o.f3] 55))) := ⟨bAl BL0.out _⟩); clear hx0 hx1 hx2 hx3 L0 BL0; (generalize wr.alloc (.cells #[.int .i64 o.f0, .int .i64 o.f1, .int .i64 o.f2, .int .i64 o.f3] 55) = W at M0 L1 BL1 ⊢); (generalize wr.heap.size = g at M0 ⊢); (have hg0 : W.cell? ⟨g, 0, none⟩ = some (.int .i64 o.f0) := (bCl M0 0).trans rfl); (have hg1 : W.cell? ⟨g, 1, none⟩ = some (.int .i64 o.f1) := (bCl M0 1).trans rfl); (have hg2 : W.cell? ⟨g, 2, none⟩ = some (.int .i64 o.f2) := (bCl M0 2).trans rfl); (have hg3 : W.cell? ⟨g, 3, none⟩ = some (.int .i64 o.f3) := (bCl M0 3).trans rfl)
     (have hl0 : W.cell? ⟨w9.heap.size, 0, none⟩ = some (.int .i64 mx) := (bCl L1.out 0).trans rfl); (have hlf := bFr L1.out 0); (have HS0 : Aside0 (∀ W1, Below W.heap.size W W1 → (fun w1 => w1.cell? ⟨w9.heap.size, 0, none⟩ = some (.int .i64 mx) ∧ w1.frozen? ⟨w9.heap.size, 0, none⟩ = false ∧ w1.cell? ⟨g, 0, none⟩ = some (.int .i64 o.f0) ∧ w1.cell? ⟨g, 1, none⟩ = some (.int .i64 o.f1) ∧ w1.cell? ⟨g, 2, none⟩ = some (.int .i64 o.f2) ∧ w1.cell? ⟨g, 3, none⟩ = some (.int .i64 o.f3)) W1) := ⟨fun W1 hb => ⟨(bCl (kBl L1.out hb) 0).trans rfl, bFr (kBl L1.out hb) 0, (bCl (kBl M0 hb) 0).trans rfl, (bCl (kBl M0 hb) 1).trans rfl, (bCl (kBl M0 hb) 2).trans rfl, (bCl (kBl M0 hb) 3).trans rfl⟩⟩); clear M0
     go_region_with (first
       | (go_at_call 87; refine (bits_callsM o HO.out _).mono ?_; rintro e w3 ⟨rfl, b3⟩; have B3 : Aside0 (Below W.heap.size W w3) := ⟨bSt (by repeat (first | exact Below.refl _ _ | exact B3.out | apply bAl | apply pBd | apply bD1)) b3⟩; clear b3; have hl3 : w3.cell? ⟨w9.heap.size, 0, none⟩ = some (.int .i64 mx) := (HS0.out _ B3.out).1; have hlf3 : w3.frozen? ⟨w9.heap.size, 0, none⟩ = false := (HS0.out _ B3.out).2.1))
     all_goals
       have L3 : Aside0 (w3.heap[w9.heap.size]? = some (.cells #[.int .i64 mx] 3 (0, 0))) := ⟨kBl L1.out B3.out⟩
       have BL3 : Aside0 (Below w9.heap.size w9 w3) := ⟨bSt BL1.out B3.out⟩
       clear hg0 hg1 hg2 hg3 hl0 hlf HS0 L1 BL1 hl3 hlf3
       go_wp2
       all_goals
         go_roundg (lose.length - (i + 1))
         case measure => have := HK.out; omega
         case rel => exact ⟨i + 1, by go_num, by omega, ⟨rfl⟩, ⟨by rw [HMX.out]; (first | rw [Int.max_eq_right z3] | rw [Int.max_eq_left z3]); exact (blk_set L3.out 0 _).trans rfl⟩, ⟨below_set BL3.out (Nat.le_refl _)⟩⟩
   (obtain rfl : i = lose.length := by omega); (have hbl : 0 ≤ maxTo lose lose.length ∧ maxTo lose lose.length ≤ 135 := maxTo_bounds lose HLO.out lose.length (Nat.le_refl _))
   have HE0 : Aside0 (EnvG (wr.alloc (.cells #[.func (.func 97) #[] #[]] 125)) w9.heap.size wr.heap.size w.heap.size (w.heap.size + 1) (maxTo lose lose.length) x A1 c1 win) := ⟨by
     have hB := bAl BL0.out (.cells #[.func (.func 97) #[] #[]] 125)
     have h1 := kAl L0.out (.cells #[.func (.func 97) #[] #[]] 125)
     have h2 := kBl BM9.out hB
     have h3 := kBl BV9.out hB
     exact ⟨(bCl h1 0).trans rfl, (bCl (blk_new wr _) 0).trans rfl, (bCl h2 0).trans rfl, (bCl h2 1).trans rfl, (bCl h2 2).trans rfl, (bCl h2 3).trans rfl, (bCl h3 0).trans rfl, Kd.C_below (Kd.C_below HR1.out.1 B9w.out) hB, HR1.out.2⟩⟩
   (have BE0 : Aside0 (Below w.heap.size w (wr.alloc (.cells #[.func (.func 97) #[] #[]] 125))) := ⟨bAl (bSt B9w.out BL0.out) _⟩); (generalize maxTo lose lose.length = blk at hbl HE0 HBZ HH L0); clear BM9 BV9 B9w L0 BL0; (go_upto_region 10 with (fail)); (generalize w9.heap.size = gb at HE0 ⊢); (generalize wr.heap.size = gi at HE0 ⊢); (generalize wr.alloc (.cells #[.func (.func 97) #[] #[]] 125) = W at HE0 BE0 ⊢)
   cases bk with
   | false =>
    have h := HH.out; rw [if_pos rfl] at h; (obtain ⟨rfl, rfl⟩ := Prod.mk.inj (sI h)); clear h HH; (go_wp2_with (first | (go_at_call 98; refine (fixed99 k gb gi w.heap.size (w.heap.size + 1) blk x A1 c1 win 1 busy false _ HE0.out HX.out HWN.out hn hbl.1 hbl.2 z3 z3 HBZ.out).mono ?_; rintro e w10 ⟨rfl, b10⟩; replace b10 := aM b10))); go_ret2; (exact ⟨rfl, bSt BE0.out b10.out⟩)
   | true =>
    have h := HH.out; rw [if_neg (by simp)] at h; (have hbz := fixF_bounds _ (fun t h2 h3 => busyN_nonneg HX.out HWN.out hbl.1 h2 h3) k 1 busy z3 z3 HBZ.out); (have HBU := aM (⟨hbz.1, hbz.2.1⟩ : _ ∧ _)); (have hin := inst_bounds HX.out hbz.1 hbz.2.1); have HW0 := aM h; clear h HH hbz
    go_wp2_with (first
    | (go_at_call 98; refine (fixed99 k gb gi w.heap.size (w.heap.size + 1) blk x A1 c1 win 1 busy true _ HE0.out HX.out HWN.out hn hbl.1 hbl.2 z3 z3 HBZ.out).mono ?_; rintro e w10 ⟨rfl, b10⟩; have HE10 := aM (HE0.out.below b10); have B10 := aM (bSt BE0.out b10); clear b10; obtain ⟨hcb, hci, hc0, hc1, hc2, hc3, -⟩ := HE10.out)
    | (go_at_call 97; refine (f97_any x busy _ HX.out HBU.out.1 HBU.out.2).mono ?_; rintro e w11 ⟨rfl, b11⟩; have HE11 := aM (HE10.out.below b11); have B11 := aM (bSt B10.out b11); clear b11 hcb hci hc0 hc1 hc2 hc3 HE10 B10))
    clear HE0 BE0 HBZ; (generalize inst x busy = N at hin HW0 ⊢); (obtain ⟨N, rfl⟩ := Int.eq_ofNat_of_zero_le hin.1); (have HWT : Aside0 (waitTo k blk x win N 0 0 0 = some (r, ok)) := ⟨by have := HW0.out; simpa using this⟩); clear HW0; (have hN : (N : Int) ≤ 10200000 := hin.2); clear hin; (go_loopg [14, 15, 50] N (fun gk v14 v15 v50 w' => ∃ (q : Nat) (worst v : Int), v14 = .int .i64 worst ∧ v15 = .int .i64 v ∧ v50 = .int .i64 (q : Int) ∧ q ≤ N ∧ 0 ≤ v ∧ v ≤ 10000000 ∧ 0 ≤ worst ∧ worst ≤ 10000000 ∧ Aside0 (gk = N - q) ∧ Aside0 (waitTo k blk x win (N - q) (q : Int) v worst = some (r, ok)) ∧ Aside0 (EnvG w' gb gi w.heap.size (w.heap.size + 1) blk x A1 c1 win) ∧ Aside0 (Below w.heap.size w w'))); (case atStart => exact ⟨0, 0, 0, rfl, rfl, rfl, by omega, by omega, by omega, by omega, by omega, ⟨rfl⟩, HWT, HE11, B11⟩)
    case round =>
     clear HWT HE11 B11; obtain ⟨q, worst, v, rfl, rfl, rfl, hq, hv0, hv1, hw0, hw1, HK, HWT, HE, HB⟩ := hrel; by_cases hlt : q < N; rotate_left
     · (obtain rfl : q = N := by omega); have h := HWT.out; rw [Nat.sub_self, waitTo] at h; (obtain ⟨rfl, rfl⟩ := Prod.mk.inj (sI h)); clear h HWT; go_wp2; go_ret2; (exact ⟨rfl, HB.out⟩)
     have h := HWT.out; (rw [show N - q = (N - (q + 1)) + 1 by omega, waitTo] at h); (obtain ⟨⟨s, sb⟩, hsb, h⟩ := oB h); (dsimp only at h); (obtain ⟨_, _, _, _, xb1, xb2, xb3, xb4⟩ := okM_bounds HX.out); (have hbb := bitsM_bounds HX.out); (have hs01 : 0 ≤ s ∧ s ≤ 10000000 := fixF_range _ (fun t h2 h3 => waitN_nonneg HX.out HWN.out hbl.1 (by omega : (0 : Int) ≤ (q : Int)) z3 h2 h3) k v s sb hv0 hv1 hsb)
     have hqp : 0 ≤ (q : Int) * x.f2 ∧ (q : Int) * x.f2 ≤ 1020000000000 := ⟨Int.mul_nonneg z3 z3, by
       have : (q : Int) * x.f2 ≤ 10200000 * 100000 := Int.mul_le_mul z3 xb2 z3 z3
       omega⟩
     (have e1 : IntKind.i64.wrap (x.f3 + s) = x.f3 + s := IntWalk.i64_in _ z3); (have e2 : IntKind.i64.wrap ((q : Int) * x.f2) = (q : Int) * x.f2 := IntWalk.i64_in _ z3); (have e3 : IntKind.i64.wrap (x.f3 + s - (q : Int) * x.f2) = x.f3 + s - (q : Int) * x.f2 := IntWalk.i64_in _ z3); (have e4 : IntKind.i64.wrap (x.f3 + s - (q : Int) * x.f2 + bitsM x) = x.f3 + s - (q : Int) * x.f2 + bitsM x := IntWalk.i64_in _ z3); (have EE := aM (⟨e1, e2, e3, e4⟩ : _ ∧ _ ∧ _ ∧ _)); (have HNW : Aside0 (0 ≤ max worst (x.f3 + s - (q : Int) * x.f2 + bitsM x) ∧ (max worst (x.f3 + s - (q : Int) * x.f2 + bitsM x) = if worst < x.f3 + s - (q : Int) * x.f2 + bitsM x then x.f3 + s - (q : Int) * x.f2 + bitsM x else worst)) := ⟨by omega, by split <;> omega⟩); have HSB := aM hsb; have HH := aM h; have HS01 := aM hs01; (have hq2 : (q : Int) ≤ 10200000 := by omega); clear h hsb hs01 e1 e2 e3 e4 hqp hbb xb1 xb2 xb3 xb4 HWT; (go_upto_region 18 with (fail)); (have HE2 : Aside0 (EnvG (wr.alloc (.cells #[.int .i64 (q : Int)] 3)) gb gi w.heap.size (w.heap.size + 1) blk x A1 c1 win) := ⟨HE.out.below (bAl (Below.refl _ _) _)⟩); (have HB2 : Aside0 (Below w.heap.size w (wr.alloc (.cells #[.int .i64 (q : Int)] 3))) := ⟨bAl HB.out _⟩); (have hqc : (wr.alloc (.cells #[.int .i64 (q : Int)] 3)).cell? ⟨wr.heap.size, 0, none⟩ = some (.int .i64 (q : Int)) := (bCl (blk_new wr _) 0).trans rfl); have HQC := aM hqc; clear HE HB hqc; (generalize wr.alloc (.cells #[.int .i64 (q : Int)] 3) = W at HE2 HB2 HQC ⊢)
     (generalize wr.heap.size = gq at HQC ⊢); (go_upto_region 19 with (first | (go_at_call 98; refine (fixed100 k gb gi w.heap.size (w.heap.size + 1) gq (q : Int) blk x A1 c1 win v s sb _ HE2.out HQC.out z3 hq2 HX.out HWN.out hn hbl.1 hbl.2 hv0 hv1 HSB.out).mono ?_; rintro e w12 ⟨rfl, b12⟩; have HE3 := aM (HE2.out.below b12); have HB3 := aM (bSt HB2.out b12); have HQ3 := aM (keepc b12 HQC.out); clear b12))); clear HE2 HB2 HQC HSB; have hq0 := HQ3.out; obtain ⟨-, -, hc0, hc1, hc2, hc3, -⟩ := HE3.out; (have HS0 : Aside0 (∀ W1, Below w12.heap.size w12 W1 → (fun w1 => w1.cell? ⟨gq, 0, none⟩ = some (.int .i64 (q : Int)) ∧ w1.cell? ⟨w.heap.size, 0, none⟩ = some (.int .i64 x.f0) ∧ w1.cell? ⟨w.heap.size, 1, none⟩ = some (.int .i64 x.f1) ∧ w1.cell? ⟨w.heap.size, 2, none⟩ = some (.int .i64 x.f2) ∧ w1.cell? ⟨w.heap.size, 3, none⟩ = some (.int .i64 x.f3)) W1) := ⟨fun W1 hb => ⟨keepc hb HQ3.out, (HE3.out.below hb).2.2.1, (HE3.out.below hb).2.2.2.1, (HE3.out.below hb).2.2.2.2.1, (HE3.out.below hb).2.2.2.2.2.1⟩⟩); by_cases hm : worst < x.f3 + s - (q : Int) * x.f2 + bitsM x; rotate_left
     · (have hmd := dF hm); have h := HH.out; (have hmx : max worst (x.f3 + s - (q : Int) * x.f2 + bitsM x) = worst := by omega); rw [hmx] at h; (have HNW2 : Aside0 (0 ≤ worst) := ⟨by have := HNW.out.1; rw [hmx] at this; exact this⟩); have HH2 := aM h; clear h hmx HH HNW; obtain ⟨e1, e2, e3, e4⟩ := EE.out
       go_region_held3 (fun w1 => w1.cell? ⟨gq, 0, none⟩ = some (.int .i64 (q : Int)) ∧ w1.cell? ⟨w.heap.size, 0, none⟩ = some (.int .i64 x.f0) ∧ w1.cell? ⟨w.heap.size, 1, none⟩ = some (.int .i64 x.f1) ∧ w1.cell? ⟨w.heap.size, 2, none⟩ = some (.int .i64 x.f2) ∧ w1.cell? ⟨w.heap.size, 3, none⟩ = some (.int .i64 x.f3)) (first | exact ⟨hq0, hc0, hc1, hc2, hc3⟩ | exact HS0.out _ (by repeat (first | exact Below.refl _ _ | exact B13.out | apply bAl | apply pBd | apply bD1)) | go_keep)
         (first
         | (go_at_call 87; refine (bits_callsM x HX.out _).mono ?_; rintro e w13 ⟨rfl, b13⟩; have B13 : Aside0 (Below w12.heap.size w12 w13) := ⟨bSt (by repeat (first | exact Below.refl _ _ | exact B13.out | apply bAl | apply pBd | apply bD1)) b13⟩; clear b13))
       (rename_i hHeld); clear hHeld hq0 hc0 hc1 hc2 hc3 HS0 e1 e2 e3 e4 EE; (have HE4 : Aside0 (EnvG w13 gb gi w.heap.size (w.heap.size + 1) blk x A1 c1 win) := ⟨HE3.out.below B13.out⟩); (have HB4 : Aside0 (Below w.heap.size w w13) := ⟨bSt HB3.out B13.out⟩)
       cases sb with
       | false =>
        have h := HH2.out; rw [if_pos (.inl rfl)] at h; (obtain ⟨rfl, rfl⟩ := Prod.mk.inj (sI h)); clear h HH2; go_wp2; go_ret2; (exact ⟨rfl, HB4.out⟩)
       | true =>
        have h := HH2.out; by_cases hg : 10000000 < worst
        · rw [if_pos (.inr hg)] at h; (obtain ⟨rfl, rfl⟩ := Prod.mk.inj (sI h)); (have t2 := dT hg); clear h HH2 hg; go_wp2; go_ret2; (exact ⟨rfl, HB4.out⟩)
        rw [if_neg (by simp; omega)] at h; (have t2 := dF hg); have HH3 := aM h; clear h HH2; go_wp2; (go_roundg (N - (q + 1))); (case measure => have := HK.out; omega); (case rel => exact ⟨q + 1, worst, s, by first | rfl | simp, rfl, by go_num, by omega, HS01.out.1, HS01.out.2, HNW2.out, by omega, ⟨rfl⟩, ⟨by rw [Int.natCast_add]; exact HH3.out⟩, HE4, HB4⟩)
     (have hmd := dT hm); have h := HH.out; (have hmx : max worst (x.f3 + s - (q : Int) * x.f2 + bitsM x) = (x.f3 + s - (q : Int) * x.f2 + bitsM x) := by omega); rw [hmx] at h; (have HNW2 : Aside0 (0 ≤ (x.f3 + s - (q : Int) * x.f2 + bitsM x)) := ⟨by have := HNW.out.1; rw [hmx] at this; exact this⟩); have HH2 := aM h; clear h hmx HH HNW; obtain ⟨e1, e2, e3, e4⟩ := EE.out
     go_region_held3 (fun w1 => w1.cell? ⟨gq, 0, none⟩ = some (.int .i64 (q : Int)) ∧ w1.cell? ⟨w.heap.size, 0, none⟩ = some (.int .i64 x.f0) ∧ w1.cell? ⟨w.heap.size, 1, none⟩ = some (.int .i64 x.f1) ∧ w1.cell? ⟨w.heap.size, 2, none⟩ = some (.int .i64 x.f2) ∧ w1.cell? ⟨w.heap.size, 3, none⟩ = some (.int .i64 x.f3)) (first | exact ⟨hq0, hc0, hc1, hc2, hc3⟩ | exact HS0.out _ (by repeat (first | exact Below.refl _ _ | exact B13.out | apply bAl | apply pBd | apply bD1)) | go_keep)
       (first
       | (go_at_call 87; refine (bits_callsM x HX.out _).mono ?_; rintro e w13 ⟨rfl, b13⟩; have B13 : Aside0 (Below w12.heap.size w12 w13) := ⟨bSt (by repeat (first | exact Below.refl _ _ | exact B13.out | apply bAl | apply pBd | apply bD1)) b13⟩; clear b13))
     (rename_i hHeld); clear hHeld hq0 hc0 hc1 hc2 hc3 HS0 e1 e2 e3 e4 EE; (have HE4 : Aside0 (EnvG w13 gb gi w.heap.size (w.heap.size + 1) blk x A1 c1 win) := ⟨HE3.out.below B13.out⟩); (have HB4 : Aside0 (Below w.heap.size w w13) := ⟨bSt HB3.out B13.out⟩)
     cases sb with
     | false =>
      have h := HH2.out; rw [if_pos (.inl rfl)] at h; (obtain ⟨rfl, rfl⟩ := Prod.mk.inj (sI h)); clear h HH2; go_wp2; go_ret2; (exact ⟨rfl, HB4.out⟩)
     | true =>
      have h := HH2.out; by_cases hg : 10000000 < (x.f3 + s - (q : Int) * x.f2 + bitsM x)
      · rw [if_pos (.inr hg)] at h; (obtain ⟨rfl, rfl⟩ := Prod.mk.inj (sI h)); (have t2 := dT hg); clear h HH2 hg; go_wp2; go_ret2; (exact ⟨rfl, HB4.out⟩)
      rw [if_neg (by simp; omega)] at h; (have t2 := dF hg); have HH3 := aM h; clear h HH2; go_wp2; (go_roundg (N - (q + 1))); (case measure => have := HK.out; omega); (case rel => exact ⟨q + 1, (x.f3 + s - (q : Int) * x.f2 + bitsM x), s, by first | rfl | simp, rfl, by go_num, by omega, HS01.out.1, HS01.out.2, HNW2.out, by omega, ⟨rfl⟩, ⟨by rw [Int.natCast_add]; exact HH3.out⟩, HE4, HB4⟩)
end Go.Proofs.YtbanemecfobonaaDoor.B
namespace Go.Proofs.YtbanemecfobonaaDoor.B
open Go.RowKit Go.Proofs.YtbanemecfobonaaDoorW.PrintWords Go.Proofs.YtbanemecfobonaaDoorW.PrintLast Go.Proofs.YtbanemecfobonaaDoorW.PrintMore
set_option linter.unusedVariables false
set_option linter.unusedSimpArgs false
def idxTo (l : List S55) (no : Int) : Nat → Nat → Int
  | 0, _ => -1
  | n + 1, i => if (rd_T55 l (i : Int)).f0 = no then (i : Int) else idxTo l no n (i + 1)
theorem idxTo_range (l : List S55) (no : Int) : ∀ n i, idxTo l no n i = -1 ∨ ((i : Int) ≤ idxTo l no n i ∧ idxTo l no n i < (i : Int) + n)
  | 0, i => .inl rfl
  | n + 1, i => by
    simp only [idxTo]
    split
    · right; omega
    · rcases idxTo_range l no n (i + 1) with h | h
      · exact .inl h
      · right; omega
def winTo (l : List S55) (no : Int) : Nat → List S55
  | 0 => []
  | i + 1 => if (rd_T55 l (i : Int)).f0 < no then winTo l no i ++ [rd_T55 l (i : Int)] else winTo l no i
def loseTo (l : List S55) (no : Int) : Nat → List S55
  | 0 => []
  | i + 1 => if no < (rd_T55 l (i : Int)).f0 then loseTo l no i ++ [rd_T55 l (i : Int)] else loseTo l no i
theorem winTo_len (l : List S55) (no : Int) : ∀ i, (winTo l no i).length ≤ i
  | 0 => Nat.le_refl _
  | i + 1 => by
    have := winTo_len l no i
    simp only [winTo]
    split
    · simp only [List.length_append, List.length_cons, List.length_nil]; omega
    · omega
theorem loseTo_len (l : List S55) (no : Int) : ∀ i, (loseTo l no i).length ≤ i
  | 0 => Nat.le_refl _
  | i + 1 => by
    have := loseTo_len l no i
    simp only [loseTo]
    split
    · simp only [List.length_append, List.length_cons, List.length_nil]; omega
    · omega
theorem rd_T55_snoc (l : List S55) (x : S55) (k : Nat) : rd_T55 (l ++ [x]) (k : Int) = if k = l.length then x else rd_T55 l (k : Int) := by
  show (l ++ [x]).getD k z55 = if k = l.length then x else l.getD k z55
  rw [List.getD_eq_getElem?_getD, List.getD_eq_getElem?_getD]
  by_cases h : k = l.length
  · subst h; simp
  · rw [if_neg h]
    by_cases h2 : k < l.length
    · rw [List.getElem?_append_left h2]
    · rw [List.getElem?_eq_none (by simp; omega), List.getElem?_eq_none z3]
theorem winTo_ok (l : List S55) (no : Int) (n : Nat) (h : ∀ i, i < n → okM (rd_T55 l (i : Int)) = true) : ∀ i, i ≤ n → ∀ k, k < (winTo l no i).length → okM (rd_T55 (winTo l no i) (k : Int)) = true
  | 0, _, k, hk => by simp [winTo] at hk
  | i + 1, hi, k, hk => by
    have ih := winTo_ok l no n h i z3
    simp only [winTo] at hk ⊢
    split at hk
    · rename_i hc
      rw [if_pos hc, rd_T55_snoc]
      split
      · exact h i z3
      · exact ih k (by simp only [List.length_append, List.length_cons, List.length_nil] at hk; omega)
    · rename_i hc
      rw [if_neg hc]; exact ih k hk
theorem loseTo_ok (l : List S55) (no : Int) (n : Nat) (h : ∀ i, i < n → okM (rd_T55 l (i : Int)) = true) : ∀ i, i ≤ n → ∀ k, k < (loseTo l no i).length → okM (rd_T55 (loseTo l no i) (k : Int)) = true
  | 0, _, k, hk => by simp [loseTo] at hk
  | i + 1, hi, k, hk => by
    have ih := loseTo_ok l no n h i z3
    simp only [loseTo] at hk ⊢
    split at hk
    · rename_i hc
      rw [if_pos hc, rd_T55_snoc]
      split
      · exact h i z3
      · exact ih k (by simp only [List.length_append, List.length_cons, List.length_nil] at hk; omega)
    · rename_i hc
      rw [if_neg hc]; exact ih k hk
theorem sentB_oks (l : List S55) (h : sentB l = true) : l.length ≤ 8 ∧ ∀ i, i < l.length → okM (rd_T55 l (i : Int)) = true := by
  simp only [sentB, Bool.and_eq_true, decide_eq_true_eq] at h
  refine ⟨h.2, fun i hi => ?_⟩
  cases ho : okM (rd_T55 l (i : Int))
  · have hb : sentTo l (i + 1) = false := by
      have hs1 : sentTo l (i + 1) = (sentTo l i && (okM (rd_T55 l (i : Int)) && !(nosM l i).contains (rd_T55 l (i : Int)).f0)) := rfl
      rw [hs1, ho]; simp
    rw [sentTo_mono l _ hb l.length z3] at h
    cases h.1
  · rfl
def delayK (k : Nat) (l : List S55) (no : Int) : Option (Int × Int) :=
  if sentB l = false then some (0, 2) else if idxTo l no l.length 0 < 0 then some (0, 6) else
    (delayF k (rd_T55 l (idxTo l no l.length 0)) (winTo l no l.length) (loseTo l no l.length)).bind fun s => if s.2 = false then some (0, 10) else some (s.1, 0)
set_option maxHeartbeats 400000 in
set_option maxRecDepth 100000 in
theorem f66_any (x : S55) (g : Nat) (no : Int) (w : World) (h : w.cell? ⟨g, 0, none⟩ = some (.int .i64 no)) : Calls Tryd.prog 66 #[.agg #[.int .i64 x.f0, .int .i64 x.f1, .int .i64 x.f2, .int .i64 x.f3], .pointer (some ⟨g, 0, none⟩)] w fun e w' => e = .returned (.bool (x.f0 == no)) ∧ Below w.heap.size w w' := by
  have h1 : (w.alloc (.cells #[.int .i64 x.f0, .int .i64 x.f1, .int .i64 x.f2, .int .i64 x.f3] 55)).cell? ⟨g, 0, none⟩ = some (.int .i64 no) := keepc (bAl (Below.refl _ _) _) h
  have hu55 := Tryd.underlying55
  go_enter Tryd.func66, Tryd.ntmps66
  go_wp2
  go_ret
  exact ⟨rfl, bAl (Below.refl _ _) _⟩
set_option maxHeartbeats 800000 in
set_option maxRecDepth 100000 in
theorem IndexFunc_msg.calls (A0 : Option Addr) (c0 : Nat) (l : List S55) (g : Nat) (no : Int) (w : World) (hr : Kd.C k55 w A0 l.length l) (hg : w.cell? ⟨g, 0, none⟩ = some (.int .i64 no)) :
    Calls Tryd.prog 65 #[.slice A0 l.length c0, .func (.func 66) #[] #[.pointer (some ⟨g, 0, none⟩)]] w fun e w' => e = .returned (.int .i64 (idxTo l no l.length 0)) ∧ Below w.heap.size w w' := by
  have HG := aM hg; have HR := aM hr; (have HB0 := aM (Below.refl w.heap.size w)); (have hlen : (l.length : Int) ≤ 9223372036854775807 := by have := hr.2.1; omega); have hu55 := Tryd.underlying55; clear hg hr; (go_enter Tryd.func65, Tryd.ntmps65); go_wp2; (go_loopg [8] l.length (fun gk v8 w' => ∃ i : Nat, v8 = .int .i64 (i : Int) ∧ i ≤ l.length ∧ Aside0 (gk = l.length - i) ∧ Aside0 (idxTo l no l.length 0 = idxTo l no (l.length - i) i) ∧ Aside0 (Below w.heap.size w w'))); (case atStart => exact ⟨0, rfl, by omega, ⟨rfl⟩, ⟨rfl⟩, HB0⟩)
  case round =>
   clear HB0; obtain ⟨i, rfl, hi, HK, HI, HB⟩ := hrel; by_cases hlt : i < l.length; rotate_left
   · (obtain rfl : i = l.length := by omega); go_wp2; go_ret; (exact ⟨by rw [HI.out, Nat.sub_self]; rfl, HB.out⟩)
   (obtain ⟨ad, e0, hx0, hx1, hx2, hx3⟩ := at_T55 (Kd.C_below HR.out HB.out) (i : Int) z3 z3); cases e0; simp only [Int.toNat_natCast] at hx0 hx1 hx2 hx3; (have HN : Aside0 (idxTo l no (l.length - i) i = if (rd_T55 l (i : Int)).f0 = no then (i : Int) else idxTo l no (l.length - (i + 1)) (i + 1)) := ⟨by rw [show l.length - i = (l.length - (i + 1)) + 1 by omega]; rfl⟩); (generalize rd_T55 l (i : Int) = x at HN hx0 hx1 hx2 hx3); (obtain ⟨bb, hbb⟩ : ∃ bb, (x.f0 == no) = bb := ⟨_, rfl⟩); have HBB := aM hbb; (have HC : Aside0 (Calls Tryd.prog 66 #[.agg #[.int .i64 x.f0, .int .i64 x.f1, .int .i64 x.f2, .int .i64 x.f3], .pointer (some ⟨g, 0, none⟩)] wr fun e w' => e = .returned (.bool bb) ∧ Below wr.heap.size wr w') := ⟨hbb ▸ f66_any x g no wr (keepc HB.out HG.out)⟩); clear hbb; cases bb; rotate_left
   · (go_wp2_with (first | (go_at_call 66; refine HC.out.mono ?_; rintro e w1 ⟨rfl, b1⟩; replace b1 := aM b1))); go_ret; (exact ⟨by rw [HI.out, HN.out, if_pos (by simpa using HBB.out)]; rfl, bSt HB.out b1.out⟩)
   (go_wp2_with (first | (go_at_call 66; refine HC.out.mono ?_; rintro e w1 ⟨rfl, b1⟩; replace b1 := aM b1))); (go_roundg (l.length - (i + 1))); (case measure => have := HK.out; omega); (case rel => exact ⟨i + 1, by go_num, by omega, ⟨rfl⟩, ⟨by rw [HI.out, HN.out, if_neg (by simpa using HBB.out)]⟩, ⟨bSt HB.out b1.out⟩⟩)
set_option maxHeartbeats 2000000 in
set_option maxRecDepth 100000 in
theorem bus_Delay.callsK (k : Nat) (A0 : Option Addr) (c0 : Nat) (l : List S55) (no r1 r2 : Int) (w : World) (hr : Kd.C k55 w A0 l.length l) (hc : l.length ≤ c0) (h : delayK k l no = some (r1, r2)) :
    Calls Tryd.prog 30 #[.slice A0 l.length c0, .int .i64 no] w fun e w' => e = .returned (.tuple #[.int .i64 r1, .int .i64 r2]) ∧ Below w.heap.size w w' := by
  have hu55 := Tryd.underlying55; have HR := aM hr; have HCC := aM hc; (have HB0 : Aside0 (Below w.heap.size w (w.alloc (.cells #[.int .i64 no] 3))) := ⟨bAl (Below.refl _ _) _⟩); (have HNO : Aside0 ((w.alloc (.cells #[.int .i64 no] 3)).cell? ⟨w.heap.size, 0, none⟩ = some (.int .i64 no)) := ⟨(bCl (blk_new w _) 0).trans rfl⟩); (unfold delayK at h); (cases hs : sentB l)
  · rw [hs, if_pos rfl] at h; (obtain ⟨rfl, rfl⟩ := Prod.mk.inj (sI h)); (have HC : Aside0 (∀ W, Below w.heap.size w W → Calls Tryd.prog 64 #[.slice A0 l.length c0] W fun e w' => e = .returned (.bool false) ∧ Below W.heap.size W w') := ⟨fun W hb => hs ▸ bus_sent.calls0 A0 c0 l W (Kd.C_below hr hb) hc⟩); clear h hr hc hs; (go_enter Tryd.func30, Tryd.ntmps30); (go_wp2_with (first | (go_at_call 64; refine (HC.out _ HB0.out).mono ?_; rintro e w1 ⟨rfl, b1⟩; replace b1 := aM b1))); go_ret2; (exact ⟨rfl, bSt HB0.out b1.out⟩)
  rw [hs, if_neg (by simp)] at h; (obtain ⟨hl8, hok⟩ := sentB_oks l hs); (have HC : Aside0 (∀ W, Below w.heap.size w W → Calls Tryd.prog 64 #[.slice A0 l.length c0] W fun e w' => e = .returned (.bool true) ∧ Below W.heap.size W w') := ⟨fun W hb => hs ▸ bus_sent.calls0 A0 c0 l W (Kd.C_below hr hb) hc⟩); have HOK := aM hok; (have hrange := idxTo_range l no l.length 0); (have HI : Aside0 (∀ W, Below (w.alloc (.cells #[.int .i64 no] 3)).heap.size (w.alloc (.cells #[.int .i64 no] 3)) W → Calls Tryd.prog 65 #[.slice A0 l.length c0, .func (.func 66) #[] #[.pointer (some ⟨w.heap.size, 0, none⟩)]] W fun e w' => e = .returned (.int .i64 (idxTo l no l.length 0)) ∧ Below W.heap.size W w') := ⟨fun W hb => IndexFunc_msg.calls A0 c0 l w.heap.size no W (Kd.C_below (Kd.C_below hr HB0.out) hb) (keepc hb HNO.out)⟩); (generalize idxTo l no l.length 0 = ix at h HI hrange); clear hs hok hr hc; by_cases hneg : ix < 0
  · rw [if_pos hneg] at h; (obtain ⟨rfl, rfl⟩ := Prod.mk.inj (sI h)); (have t1 := dT hneg); clear h hneg hrange; (go_enter Tryd.func30, Tryd.ntmps30); (go_wp2_with (first | (go_at_call 64; refine (HC.out _ HB0.out).mono ?_; rintro e w1 ⟨rfl, b1⟩; replace b1 := aM b1) | (go_at_call 65; refine (HI.out _ b1.out).mono ?_; rintro e w2 ⟨rfl, b2⟩; replace b2 := aM b2))); go_ret2; (exact ⟨rfl, bSt HB0.out (bSt b1.out b2.out)⟩)
  rw [if_neg hneg] at h; (have t1 := dF hneg); (obtain ⟨n, rfl⟩ : ∃ n : Nat, ix = (n : Int) := ⟨ix.toNat, by omega⟩); (have hn : n < l.length := by omega); clear hneg hrange; (obtain ⟨⟨d, dk⟩, hd, h⟩ := oB h); (dsimp only at h); have HD := aM hd; have HH := aM h; clear h hd; (go_enter Tryd.func30, Tryd.ntmps30); (go_wp2_with (first | (go_at_call 64; refine (HC.out _ HB0.out).mono ?_; rintro e w1 ⟨rfl, b1⟩; replace b1 := aM b1) | (go_at_call 65; refine (HI.out _ b1.out).mono ?_; rintro e w2 ⟨rfl, b2⟩; have B2 := aM (bSt b1.out b2); clear b2 b1))); clear HC HI; (have hlen : (l.length : Int) ≤ 9223372036854775807 := by omega); (have R70 : Aside0 (Kd.R k55 55 w2 (w.alloc (.cells #[.int .i64 no] 3)).heap.size (fun k => True ∧ some k ≠ (Value.slice none 0 0).ownBlock) (.slice none 0 0) ([] : List S55)) := ⟨Kd.R_nil _ _ _ _ _⟩); (go_loopg [7, 8, 23] l.length (fun gk v7 v8 v23 w' => ∃ (i : Nat), v23 = .int .i64 (i : Int) ∧ i ≤ l.length ∧ Aside0 (gk = l.length - i) ∧ Aside0 (Kd.R k55 55 w' (w.alloc (.cells #[.int .i64 no] 3)).heap.size (fun k => True ∧ some k ≠ v8.ownBlock) v7 (winTo l no i)) ∧ Aside0 (Kd.R k55 55 w' (w.alloc (.cells #[.int .i64 no] 3)).heap.size (fun k => True ∧ some k ≠ v7.ownBlock) v8 (loseTo l no i)) ∧ Aside0 (Below (w.alloc (.cells #[.int .i64 no] 3)).heap.size (w.alloc (.cells #[.int .i64 no] 3)) w'))); (case atStart => exact ⟨0, rfl, by omega, ⟨rfl⟩, R70, R70, B2⟩)
  case round =>
   clear R70 B2; obtain ⟨i, rfl, hi, HK, R7, R8, HB⟩ := hrel; by_cases hlt : i < l.length; rotate_left
   · (obtain rfl : i = l.length := by omega); (obtain ⟨A7, c7, rfl, h7, hr7⟩ := Kd.R_reads R7.out); (obtain ⟨A8, c8, rfl, h8, hr8⟩ := Kd.R_reads R8.out); (have W7 := aM (⟨hr7, h7⟩ : _ ∧ _)); (have W8 := aM (⟨hr8, h8⟩ : _ ∧ _)); (have HOKn := HOK.out n hn); (have HOW := aM (winTo_ok l no l.length HOK.out l.length (Nat.le_refl _))); (have HOL := aM (loseTo_ok l no l.length HOK.out l.length (Nat.le_refl _))); (have hwl := winTo_len l no l.length); (have hll := loseTo_len l no l.length); (obtain ⟨ad, e0, hx0, hx1, hx2, hx3⟩ := at_T55 (Kd.C_below (Kd.C_below HR.out HB0.out) HB.out) (n : Int) z3 z3); cases e0; simp only [Int.toNat_natCast] at hx0 hx1 hx2 hx3; clear R7 R8 h7 hr7 h8 hr8; (generalize rd_T55 l (n : Int) = x at HD HOKn hx0 hx1 hx2 hx3); (generalize winTo l no l.length = ws at HD W7 HOW hwl ⊢); (generalize loseTo l no l.length = ls at HD W8 HOL hll ⊢); have HOKX := aM HOKn; (have HCD : Aside0 (Calls Tryd.prog 67 #[.agg #[.int .i64 x.f0, .int .i64 x.f1, .int .i64 x.f2, .int .i64 x.f3], .slice A7 ws.length c7, .slice A8 ls.length c8] wr fun e w' => e = .returned (.tuple #[.int .i64 d, .bool dk]) ∧ Below wr.heap.size wr w') := ⟨bus_delay.calls k x A7 A8 c7 c8 ws ls d dk wr W7.out.1 W7.out.2 W8.out.1 W8.out.2 HOKX.out HOW.out HOL.out z3 z3 HD.out⟩); clear HOKn hwl hll; cases dk
     · have h := HH.out; rw [if_pos rfl] at h; (obtain ⟨rfl, rfl⟩ := Prod.mk.inj (sI h)); clear h HH; (go_wp2_with (first | (go_at_call 67; refine HCD.out.mono ?_; rintro e w5 ⟨rfl, b5⟩; replace b5 := aM b5))); go_ret2; (exact ⟨rfl, bSt HB0.out (bSt HB.out b5.out)⟩)
     have h := HH.out; rw [if_neg (by simp)] at h; (obtain ⟨rfl, rfl⟩ := Prod.mk.inj (sI h)); clear h HH; (go_wp2_with (first | (go_at_call 67; refine HCD.out.mono ?_; rintro e w5 ⟨rfl, b5⟩; replace b5 := aM b5))); go_ret2; (exact ⟨rfl, bSt HB0.out (bSt HB.out b5.out)⟩)
   (obtain ⟨ad, e0, hx0, hx1, hx2, hx3⟩ := at_T55 (Kd.C_below (Kd.C_below HR.out HB0.out) HB.out) (i : Int) z3 z3); cases e0; simp only [Int.toNat_natCast] at hx0 hx1 hx2 hx3; (have HWN : Aside0 (winTo l no (i + 1) = if (rd_T55 l (i : Int)).f0 < no then winTo l no i ++ [rd_T55 l (i : Int)] else winTo l no i) := ⟨rfl⟩); (have HLN : Aside0 (loseTo l no (i + 1) = if no < (rd_T55 l (i : Int)).f0 then loseTo l no i ++ [rd_T55 l (i : Int)] else loseTo l no i) := ⟨rfl⟩); (have hwl := winTo_len l no i); (have hll := loseTo_len l no i); (generalize rd_T55 l (i : Int) = x at HWN HLN hx0 hx1 hx2 hx3); (generalize winTo l no i = ws at HWN R7 hwl); (generalize loseTo l no i = ls at HLN R8 hll); (have HB3 : Aside0 (Below (w.alloc (.cells #[.int .i64 no] 3)).heap.size (w.alloc (.cells #[.int .i64 no] 3)) (wr.alloc (.cells #[.int .i64 x.f0, .int .i64 x.f1, .int .i64 x.f2, .int .i64 x.f3] 55))) := ⟨HB.out.alloc HB.out.size _⟩); (have hno : (wr.alloc (.cells #[.int .i64 x.f0, .int .i64 x.f1, .int .i64 x.f2, .int .i64 x.f3] 55)).cell? ⟨w.heap.size, 0, none⟩ = some (.int .i64 no) := keepc HB3.out HNO.out); (have S7 : Aside0 (Kd.R k55 55 (wr.alloc (.cells #[.int .i64 x.f0, .int .i64 x.f1, .int .i64 x.f2, .int .i64 x.f3] 55)) (w.alloc (.cells #[.int .i64 no] 3)).heap.size (fun k => True ∧ some k ≠ u8.ownBlock) u7 ws) := ⟨Kd.R_alloc R7.out _⟩); (have S8 : Aside0 (Kd.R k55 55 (wr.alloc (.cells #[.int .i64 x.f0, .int .i64 x.f1, .int .i64 x.f2, .int .i64 x.f3] 55)) (w.alloc (.cells #[.int .i64 no] 3)).heap.size (fun k => True ∧ some k ≠ u7.ownBlock) u8 ls) := ⟨Kd.R_alloc R8.out _⟩)
   (have M0 : (wr.alloc (.cells #[.int .i64 x.f0, .int .i64 x.f1, .int .i64 x.f2, .int .i64 x.f3] 55)).heap[wr.heap.size]? = some (.cells #[.int .i64 x.f0, .int .i64 x.f1, .int .i64 x.f2, .int .i64 x.f3] 55 (0, 0)) := blk_new _ _); clear R7 R8 HB; (go_upto_region 10 with (fail)); clear hx0 hx1 hx2 hx3; (generalize wr.alloc (.cells #[.int .i64 x.f0, .int .i64 x.f1, .int .i64 x.f2, .int .i64 x.f3] 55) = W at M0 HB3 hno S7 S8 ⊢); (generalize wr.heap.size = g at M0 ⊢); (have hg0 : W.cell? ⟨g, 0, none⟩ = some (.int .i64 x.f0) := (bCl M0 0).trans rfl); (have hg1 : W.cell? ⟨g, 1, none⟩ = some (.int .i64 x.f1) := (bCl M0 1).trans rfl); (have hg2 : W.cell? ⟨g, 2, none⟩ = some (.int .i64 x.f2) := (bCl M0 2).trans rfl); (have hg3 : W.cell? ⟨g, 3, none⟩ = some (.int .i64 x.f3) := (bCl M0 3).trans rfl); clear M0; by_cases c1 : x.f0 < no
   · (have c1b := dT c1); (have c2 : ¬ no < x.f0 := by omega); rw [if_pos c1] at HWN; rw [if_neg c2] at HLN; clear c1 c2
     go_wp2_with (first
     | ((with_reducible refine gate_builtin (b := .append) (xs := #[.tmp 32, .tmp 34]) rfl ?_); at_builtin; refine Kd.R_append k55 (w0 := (w.alloc (.cells #[.int .i64 no] 3))) (w.alloc (.cells #[.int .i64 no] 3)).heap.size rfl (.tmp 32) (.tmp 34) 46 55 (.agg #[(.int .i64 0), (.int .i64 0), (.int .i64 0), (.int .i64 0)]) 32 rfl Tryd.underlying46 info55 rfl z9 z3 u7 ws x [.int .i64 x.f0, .int .i64 x.f1, .int .i64 x.f2, .int .i64 x.f3] (fun k => True ∧ some k ≠ u8.ownBlock) (fun _ => False) rfl rfl ?aP (fun _ hk => hk.elim) ?aF ?aO ?aB ?aS ?aL ?_; (case aP => exact k55_mkM _ _ _ x); (case aF => exact (fun k hk => ⟨trivial, fun e => by have := Kd.R_lt S8.out k e.symm; omega⟩)); (case aO => exact S7.out); (case aB => exact HB3.out); (case aS => exact HB3.out.size); (case aL => omega); intro v1 w4 ho hb hg hat; have N1 := aM ho; have NB := aM hb; have N2 := aM (Kd.R_after S8.out hg hat); clear ho hb hg hat))
     (go_roundg (l.length - (i + 1))); (case measure => have := HK.out; omega); (case rel => exact ⟨i + 1, by go_num, by omega, ⟨rfl⟩, ⟨by rw [HWN.out]; exact N1.out⟩, ⟨by rw [HLN.out]; exact N2.out⟩, NB⟩)
   (have c1b := dF c1); rw [if_neg c1] at HWN; by_cases c2 : no < x.f0; rotate_left
   · (have c2b := dF c2); rw [if_neg c2] at HLN; clear c1 c2; go_wp2; (go_roundg (l.length - (i + 1))); (case measure => have := HK.out; omega); (case rel => exact ⟨i + 1, by go_num, by omega, ⟨rfl⟩, ⟨by rw [HWN.out]; exact S7.out⟩, ⟨by rw [HLN.out]; exact S8.out⟩, HB3⟩)
   (have c2b := dT c2); rw [if_pos c2] at HLN; clear c1 c2
   go_wp2_with (first
   | ((with_reducible refine gate_builtin (b := .append) (xs := #[.tmp 41, .tmp 43]) rfl ?_); at_builtin; refine Kd.R_append k55 (w0 := (w.alloc (.cells #[.int .i64 no] 3))) (w.alloc (.cells #[.int .i64 no] 3)).heap.size rfl (.tmp 41) (.tmp 43) 46 55 (.agg #[(.int .i64 0), (.int .i64 0), (.int .i64 0), (.int .i64 0)]) 32 rfl Tryd.underlying46 info55 rfl z9 z3 u8 ls x [.int .i64 x.f0, .int .i64 x.f1, .int .i64 x.f2, .int .i64 x.f3] (fun k => True ∧ some k ≠ u7.ownBlock) (fun _ => False) rfl rfl ?aP (fun _ hk => hk.elim) ?aF ?aO ?aB ?aS ?aL ?_; (case aP => exact k55_mkM _ _ _ x); (case aF => exact (fun k hk => ⟨trivial, fun e => by have := Kd.R_lt S7.out k e.symm; omega⟩)); (case aO => exact S8.out); (case aB => exact HB3.out); (case aS => exact HB3.out.size); (case aL => omega); intro v1 w4 ho hb hg hat; have N1 := aM ho; have NB := aM hb; have N2 := aM (Kd.R_after S7.out hg hat); clear ho hb hg hat))
   (go_roundg (l.length - (i + 1))); (case measure => have := HK.out; omega); (case rel => exact ⟨i + 1, by go_num, by omega, ⟨rfl⟩, ⟨by rw [HWN.out]; exact N2.out⟩, ⟨by rw [HLN.out]; exact N1.out⟩, NB⟩)
end Go.Proofs.YtbanemecfobonaaDoor.B
namespace Go.Proofs.YtbanemecfobonaaDoor.B
open Go.RowKit Go.Proofs.YtbanemecfobonaaDoorW.PrintWords Go.Proofs.YtbanemecfobonaaDoorW.PrintLast Go.Proofs.YtbanemecfobonaaDoorW.PrintMore
attribute [local go_sem] min2_int min_two
set_option linter.unusedVariables false
set_option linter.unusedSimpArgs false
end Go.Proofs.YtbanemecfobonaaDoor.B
namespace Go.Proofs.YtbanemecfobonaaDoor.B
open Go.RowKit Go.Proofs.YtbanemecfobonaaDoorW.PrintWords Go.Proofs.YtbanemecfobonaaDoorW.PrintLast Go.Proofs.YtbanemecfobonaaDoorW.PrintMore
set_option linter.unusedVariables false
set_option linter.unusedSimpArgs false
def EvS {α : Type} (f : Nat → Option α) (r : Option α) : Prop := ∃ K, ∀ k, K ≤ k → f k = r
theorem EvS.succ {α : Type} {f g : Nat → Option α} {r : Option α} (h : EvS g r) (K0 : Nat) (hs : ∀ k, K0 ≤ k → f (k + 1) = g k) : EvS f r := by
  obtain ⟨K, hK⟩ := h
  refine ⟨max K K0 + 1, fun k hk => ?_⟩
  obtain ⟨k', rfl⟩ : ∃ k', k = k' + 1 := ⟨k - 1, by omega⟩
  rw [hs k' z3]
  exact hK k' z3
theorem EvS.now {α : Type} {f : Nat → Option α} {r : Option α} (K0 : Nat) (hs : ∀ k, K0 ≤ k → f (k + 1) = r) : EvS f r :=
  ⟨K0 + 1, fun k hk => by
    obtain ⟨k', rfl⟩ : ∃ k', k = k' + 1 := ⟨k - 1, by omega⟩
    exact hs k' z3⟩
theorem EvS.same {α : Type} {f g : Nat → Option α} {r : Option α} (h : EvS g r) (hs : ∀ k, f k = g k) : EvS f r := by
  obtain ⟨K, hK⟩ := h
  exact ⟨K, fun k hk => (hs k).trans (hK k hk)⟩
theorem EvS.bind {α β : Type} {f : Nat → Option α} {a : α} {g : Nat → α → Option β} {r : Option β} (h : EvS f (some a)) (h2 : EvS (fun k => g k a) r) : EvS (fun k => (f k).bind (g k)) r := by
  obtain ⟨K, hK⟩ := h
  obtain ⟨K2, hK2⟩ := h2
  refine ⟨max K K2, fun k hk => ?_⟩
  show (f k).bind (g k) = r
  rw [hK k z3, Option.bind_some]
  exact hK2 k z3
theorem w64s (x : Int) (h1 : -9223372036854775808 ≤ x) (h2 : x ≤ 9223372036854775807) : wrap64 x = x := by simp only [wrap64]; omega
theorem nNx (i : Nat) (h : i ≤ 1000000000) : wrap64 ((i : Int) + 1) = ((i + 1 : Nat) : Int) := by rw [w64s _ z3 z3]; omega
def V (l : List Int) : Nat → Int
  | 0 => 0
  | n + 1 => V l n + rd l (n : Int) * 4294967296 ^ n
abbrev vW (l : List Int) : Int := V l l.length
def okW (l : List Int) : Prop := ∀ i : Nat, i < l.length → 0 ≤ rd l (i : Int) ∧ rd l (i : Int) < 4294967296
def nW (l : List Int) : Prop := okW l ∧ (0 < l.length → 0 < rd l ((l.length - 1 : Nat) : Int))
theorem powB (n : Nat) : (1 : Int) ≤ 4294967296 ^ n := by
  induction n with
  | zero => simp
  | succ n ih => rw [Int.pow_succ]; omega
theorem powB_le (n m : Nat) (h : n ≤ m) : (4294967296 : Int) ^ n ≤ 4294967296 ^ m := by
  induction m with
  | zero => obtain rfl : n = 0 := by omega
            exact Int.le_refl _
  | succ m ih =>
    by_cases e : n = m + 1
    · subst e; exact Int.le_refl _
    · have := ih z3
      have := powB m
      rw [Int.pow_succ]; omega
theorem V_bound (l : List Int) (h : okW l) : ∀ n, n ≤ l.length → 0 ≤ V l n ∧ V l n + 1 ≤ 4294967296 ^ n
  | 0, _ => by simp [V]
  | n + 1, hn => by
    obtain ⟨h1, h2⟩ := V_bound l h n z3
    obtain ⟨h3, h4⟩ := h n z3
    have hp := powB n
    have h5 : 0 ≤ rd l (n : Int) * 4294967296 ^ n := Int.mul_nonneg h3 z3
    have h6 : rd l (n : Int) * 4294967296 ^ n ≤ 4294967295 * 4294967296 ^ n := Int.mul_le_mul_of_nonneg_right z3 z3
    rw [Int.pow_succ]
    simp only [V]
    omega
theorem V_low (l : List Int) (h : nW l) (hp : 0 < l.length) : 4294967296 ^ (l.length - 1) ≤ vW l := by
  obtain ⟨m, hm⟩ : ∃ m, l.length = m + 1 := ⟨l.length - 1, by omega⟩
  have h1 := (V_bound l h.1 m z3).1
  have h2 := h.2 hp
  show _ ≤ V l l.length
  rw [hm] at h2 ⊢
  simp only [V, Nat.add_sub_cancel] at h2 ⊢
  have h3 : 1 * 4294967296 ^ m ≤ rd l (m : Int) * 4294967296 ^ m := Int.mul_le_mul_of_nonneg_right z3 (by have := powB m; omega)
  omega
theorem V_congr (a b : List Int) : ∀ n : Nat, (∀ i : Nat, i < n → rd a (i : Int) = rd b (i : Int)) → V a n = V b n
  | 0, _ => rfl
  | n + 1, h => by simp only [V]; rw [V_congr a b n (fun i hi => h i z3), h n z3]
theorem V_set (l : List Int) (i : Nat) (v : Int) (hi : i < l.length) : ∀ n, n ≤ l.length → V (l.set i v) n = V l n + if i < n then (v - rd l (i : Int)) * 4294967296 ^ i else 0
  | 0, _ => by simp [V]
  | n + 1, hn => by
    simp only [V]
    rw [V_set l i v hi n z3, rd_put l i v n z3]
    by_cases h1 : n = i
    · subst h1
      rw [if_pos rfl, if_neg z3, if_pos z3]; grind
    · rw [if_neg h1]
      by_cases h2 : i < n
      · rw [if_pos h2, if_pos z3]; omega
      · rw [if_neg h2, if_neg z3]; omega
theorem rd_out (l : List Int) (i : Nat) (h : l.length ≤ i) : rd l (i : Int) = 0 := by
  show l.getD i 0 = 0
  rw [List.getD_eq_getElem?_getD, List.getElem?_eq_none h]; rfl
theorem rd_rep (m i : Nat) : rd (List.replicate m 0) (i : Int) = 0 := by
  show (List.replicate m (0 : Int)).getD i 0 = 0
  rw [List.getD_eq_getElem?_getD, List.getElem?_replicate]
  split <;> rfl
theorem V_zero (l : List Int) (n : Nat) (h : ∀ i, n ≤ i → i < l.length → rd l (i : Int) = 0) : ∀ m, n ≤ m → m ≤ l.length → V l m = V l n := by
  intro m hm hl
  induction m with
  | zero => obtain rfl : n = 0 := by omega
            rfl
  | succ m ih =>
    by_cases e : n = m + 1
    · subst e; rfl
    · simp only [V]
      rw [ih z3 z3, h m z3 z3]; omega
theorem okW_take (l : List Int) (m : Nat) (h : okW l) : okW (l.take m) := fun i hi => by
  rw [List.length_take] at hi
  rw [rd_take _ _ _ z3]
  exact h i z3
theorem V_take (l : List Int) (m n : Nat) (h : n ≤ m) : V (l.take m) n = V l n := V_congr _ _ _ (fun i hi => rd_take l m i z3)
theorem w64n (n : Nat) (h : 0 < n) (h2 : n ≤ 1000000) : wrap64 ((n : Int) - 1) = ((n - 1 : Nat) : Int) := by unfold wrap64; omega
theorem trim_l0 (l : List Int) (hl : l.length ≤ 1000000) : ∀ n : Nat, n ≤ l.length → (∀ i, n ≤ i → i < l.length → rd l (i : Int) = 0) →
    ∃ m, m ≤ n ∧ EvS (fun k => big_trim.l0 k l (n : Int)) (some (l.take m)) ∧ (0 < m → rd l ((m - 1 : Nat) : Int) ≠ 0) ∧ (∀ i, m ≤ i → i < l.length → rd l (i : Int) = 0)
  | 0, hn, h => ⟨0, Nat.le_refl _, EvS.now 0 fun k _ => by rw [big_trim.l0, if_neg z3, if_pos z3, if_pos z3]; rfl, fun h => absurd h z3, h⟩
  | n + 1, hn, h => by
    have e : wrap64 (((n + 1 : Nat) : Int) - 1) = (n : Int) := by rw [w64n (n + 1) z3 z3]; rfl
    by_cases hz : rd l (n : Int) = 0
    · obtain ⟨m, h1, h2, h3, h4⟩ := trim_l0 l hl n z3 (fun i a b => by
        by_cases e : i = n
        · subst e; exact hz
        · exact h i z3 b)
      exact ⟨m, by omega, h2.succ 0 fun k _ => by rw [big_trim.l0, if_pos z3, e, if_pos z3, if_pos z3, if_pos hz], h3, h4⟩
    · exact ⟨n + 1, Nat.le_refl _, EvS.now 0 fun k _ => by rw [big_trim.l0, if_pos z3, e, if_pos z3, if_pos z3, if_neg hz, if_pos z3, if_pos z3]; rfl, fun _ => hz, h⟩
theorem trim_val (l : List Int) (hl : l.length ≤ 1000000) (ho : okW l) : ∃ r, EvS (fun k => big_trim.f k l) (some r) ∧ nW r ∧ vW r = vW l ∧ r.length ≤ l.length := by
  obtain ⟨m, h1, h2, h3, h4⟩ := trim_l0 l hl l.length (Nat.le_refl _) (fun i a b => by omega)
  have hlen : (l.take m).length = m := by rw [List.length_take]; omega
  refine ⟨l.take m, h2, ⟨okW_take l m ho, fun hp => ?_⟩, ?_, by omega⟩
  · rw [hlen] at hp ⊢
    rw [rd_take _ _ _ z3]
    have := (ho (m - 1) z3).1
    have := h3 hp
    omega
  · show V (l.take m) (l.take m).length = V l l.length
    rw [hlen, V_take l m m (Nat.le_refl _), V_zero l m h4 l.length h1 (Nat.le_refl _)]
theorem of_val (n : Int) (h0 : 0 ≤ n) (h1 : n < 18446744073709551616) : ∃ r, EvS (fun k => big_of.f k n) (some r) ∧ nW r ∧ vW r = n ∧ r.length ≤ 2 := by
  obtain ⟨r, h2, h3, h4, h5⟩ := trim_val [n % 4294967296, n / 4294967296 % 4294967296] (by simp) (fun i hi => by
    have : i = 0 ∨ i = 1 := by simp at hi; omega
    rcases this with rfl | rfl
    · show 0 ≤ n % 4294967296 ∧ _; exact ⟨by omega, by show n % 4294967296 < _; omega⟩
    · show 0 ≤ n / 4294967296 % 4294967296 ∧ _; exact ⟨by omega, by show n / 4294967296 % 4294967296 < _; omega⟩)
  refine ⟨r, h2.bind ⟨0, fun k _ => rfl⟩, h3, ?_, by simpa using h5⟩
  rw [h4]
  show (0 + n % 4294967296 * 4294967296 ^ 0) + n / 4294967296 % 4294967296 * 4294967296 ^ 1 = n
  simp only [Int.pow_zero, Int.pow_succ]
  omega
theorem u64w (n : Int) (h0 : 0 ≤ n) (h1 : n < 18446744073709551616) : IntKind.u64.wrap n = n := IntWalk.u64_in _ ⟨h0, by omega⟩
theorem wraps_u64 (n : Int) (h₀ : 0 ≤ n) (h₁ : n < 2 ^ 64) : IntKind.u64.wrap n = n := u64w n h₀ (by simpa using h₁)
theorem u64_or32 (x y : Int) (hx0 : 0 ≤ x) (hx1 : x < 4294967296) (h0 : 0 ≤ y) (h1 : y < 4294967296) : Go.bits .or .u64 (x * 4294967296) y = x * 4294967296 + y :=
  bits_join .u64 64 z9 wraps_u64 32 (x * 4294967296) y z3 z3 z3 h0 (by simpa using h1) z3
theorem u64_and32 (x : Int) (h0 : 0 ≤ x) (h1 : x < 18446744073709551616) : Go.bits .and .u64 x 4294967295 = x % 4294967296 := bits_mask .u64 64 z9 wraps_u64 32 z9 x h0 (by simpa using h1)
theorem two_val (x y : Int) (hx0 : 0 ≤ x) (hx1 : x < 4294967296) (h0 : 0 ≤ y) (h1 : y < 4294967296) : two x y = x * 4294967296 + y := by
  unfold two
  rw [u64w x z3 z3, u64w (x * 4294967296) z3 z3, u64w y z3 z3, u64_or32 x y hx0 hx1 h0 h1]
theorem small_val (l : List Int) (h : nW l) : big_words_small.f l = some (if l.length ≤ 2 then (vW l, true) else (0, false)) := by
  unfold big_words_small.f
  by_cases h0 : l.length = 0
  · have e : l = [] := List.eq_nil_of_length_eq_zero h0
    subst e; rfl
  rw [if_neg z3]
  by_cases h1 : l.length = 1
  · obtain ⟨a, b⟩ : 0 ≤ rd l 0 ∧ rd l 0 < 4294967296 := h.1 0 z3
    rw [if_pos z3, if_pos z3, if_pos z3]
    have e : vW l = rd l 0 := by
      show V l l.length = _
      rw [h1]; simp [V]
    rw [e, u64w _ a z3]
  rw [if_neg z3]
  by_cases h2 : l.length = 2
  · obtain ⟨a, b⟩ := h.1 0 z3
    obtain ⟨c, d⟩ := h.1 1 z3
    rw [if_pos z3, if_pos z3, if_pos z3, if_pos z3]
    have e : vW l = rd l ((1 : Nat) : Int) * 4294967296 + rd l ((0 : Nat) : Int) := by
      show V l l.length = _
      rw [h2]; simp only [V, Int.pow_zero, Int.pow_succ]; omega
    rw [e]
    have := two_val (rd l ((1 : Nat) : Int)) (rd l ((0 : Nat) : Int)) c d a b
    unfold two at this
    simp only [Option.some.injEq, Prod.mk.injEq, and_true]
    exact this
  rw [if_neg z3, if_neg z3]
theorem vW_nonneg (l : List Int) (h : okW l) : 0 ≤ vW l := (V_bound l h _ (Nat.le_refl _)).1
theorem small_iff (l : List Int) (h : nW l) : l.length ≤ 2 ↔ vW l < 18446744073709551616 := by
  constructor
  · intro hl
    have h1 := (V_bound l h.1 _ (Nat.le_refl _)).2
    have h2 := powB_le l.length 2 hl
    have e : (4294967296 : Int) ^ 2 = 18446744073709551616 := by decide
    show V l l.length < _
    omega
  · intro hl
    rcases Nat.lt_or_ge l.length 3 with h3 | h3
    · omega
    · have h1 := V_low l h z3
      have h2 := powB_le 2 (l.length - 1) z3
      have e : (4294967296 : Int) ^ 2 = 18446744073709551616 := by decide
      omega
theorem len_lt (a b : List Int) (ha : okW a) (hb : nW b) (h : a.length < b.length) : vW a < vW b := by
  have h1 := (V_bound a ha _ (Nat.le_refl _)).2
  have h2 := V_low b hb z3
  have h3 := powB_le a.length (b.length - 1) z3
  show V a a.length < V b b.length
  have h4 : V b b.length = vW b := rfl
  omega
theorem cmp_int (a b : Int) : cmp_Compare_int.f a b = some (if a < b then -1 else if b < a then 1 else 0) := by
  unfold cmp_Compare_int.f cmp_isNaN_int.f
  simp only [bne_self_eq_false, Option.bind_some, Bool.false_eq_true, if_false]
  split
  · rfl
  · split <;> rfl
theorem cmp_u32 (a b : Int) : cmp_Compare_uint32.f a b = some (if a < b then -1 else if b < a then 1 else 0) := by
  unfold cmp_Compare_uint32.f cmp_isNaN_uint32.f
  simp only [bne_self_eq_false, Option.bind_some, Bool.false_eq_true, if_false]
  split
  · rfl
  · split <;> rfl
def sgnC (a b : Int) : Int := if a < b then -1 else if b < a then 1 else 0
theorem cmp_l0 (a b : List Int) (ha : okW a) (hb : okW b) (he : a.length = b.length) (hl : a.length ≤ 1000000) : ∀ n : Nat, n ≤ a.length → EvS (fun k => big_compare.l0 k a b ((n : Int) - 1)) (some (sgnC (V a n) (V b n)))
  | 0, hn => EvS.now 0 fun k _ => by rw [big_compare.l0, if_neg z3]; rfl
  | n + 1, hn => by
    have e : ((n + 1 : Nat) : Int) - 1 = (n : Int) := by omega
    obtain ⟨a1, a2⟩ := ha n z3
    obtain ⟨b1, b2⟩ := hb n z3
    obtain ⟨va1, va2⟩ := V_bound a ha n z3
    obtain ⟨vb1, vb2⟩ := V_bound b hb n z3
    rw [e]
    by_cases hd : rd a (n : Int) = rd b (n : Int)
    · have ih := cmp_l0 a b ha hb he hl n z3
      have e2 : sgnC (V a (n + 1)) (V b (n + 1)) = sgnC (V a n) (V b n) := by
        simp only [V, sgnC, hd]
        by_cases h1 : V a n < V b n
        · rw [if_pos h1, if_pos z3]
        · rw [if_neg h1, if_neg z3]
          by_cases h2 : V b n < V a n
          · rw [if_pos h2, if_pos z3]
          · rw [if_neg h2, if_neg z3]
      rw [e2]
      refine ih.succ 0 fun k _ => ?_
      rw [big_compare.l0, if_pos z3, if_pos z3, if_pos z3, if_pos z3, if_pos hd]
      congr 1; unfold wrap64; omega
    · refine EvS.now 0 fun k _ => ?_
      rw [big_compare.l0, if_pos z3, if_pos z3, if_pos z3, if_pos z3, if_neg hd, cmp_u32, Option.bind_some]
      congr 1
      have hp := powB n
      have ea : V a (n + 1) = V a n + rd a (n : Int) * 4294967296 ^ n := rfl
      have eb : V b (n + 1) = V b n + rd b (n : Int) * 4294967296 ^ n := rfl
      unfold sgnC
      rcases Int.lt_or_gt_of_ne hd with h | h
      · have h5 : (rd a (n : Int) + 1) * 4294967296 ^ n ≤ rd b (n : Int) * 4294967296 ^ n := Int.mul_le_mul_of_nonneg_right z3 z3
        rw [Int.add_mul] at h5
        rw [if_pos h, if_pos z3]
      · have h5 : (rd b (n : Int) + 1) * 4294967296 ^ n ≤ rd a (n : Int) * 4294967296 ^ n := Int.mul_le_mul_of_nonneg_right z3 z3
        rw [Int.add_mul] at h5
        rw [if_neg z3, if_pos h, if_neg z3, if_pos z3]
theorem cmp_val (a b : List Int) (ha : nW a) (hb : nW b) (hl : a.length ≤ 1000000) (hl2 : b.length ≤ 1000000) : EvS (fun k => big_compare.f k a b) (some (sgnC (vW a) (vW b))) := by
  by_cases he : a.length = b.length
  · have h := cmp_l0 a b ha.1 hb.1 he hl a.length (Nat.le_refl _)
    have e : sgnC (vW a) (vW b) = sgnC (V a a.length) (V b a.length) := by show sgnC (V a a.length) (V b b.length) = _; rw [he]
    rw [e]
    refine h.same fun k => ?_
    show big_compare.f k a b = _
    unfold big_compare.f
    rw [cmp_int, if_neg z3, if_neg z3, Option.bind_some, if_pos rfl]
    congr 1; unfold wrap64; omega
  · refine ⟨0, fun k _ => ?_⟩
    show big_compare.f k a b = _
    unfold big_compare.f
    rw [cmp_int, Option.bind_some]
    unfold sgnC
    rcases Nat.lt_or_gt_of_ne he with h | h
    · have h1 := len_lt a b ha.1 hb h
      rw [if_pos (show (a.length : Int) < b.length by omega), if_neg z9, if_pos h1]
    · have h1 := len_lt b a hb.1 ha h
      rw [if_neg (show ¬ (a.length : Int) < b.length by omega), if_pos (show (b.length : Int) < a.length by omega), if_neg z9, if_neg z3, if_pos h1]
def okT (l : List Int) (n : Nat) : Prop := ∀ i : Nat, i < n → 0 ≤ rd l (i : Int) ∧ rd l (i : Int) < 4294967296
theorem okT_set (l : List Int) (n i : Nat) (v : Int) (h : okT l n) (hl : n ≤ l.length) (h0 : 0 ≤ v) (h1 : v < 4294967296) : okT (l.set i v) n := fun j hj => by
  rw [rd_put l i v j z3]
  split
  · exact ⟨h0, h1⟩
  · exact h j hj
theorem okT_put (l : List Int) (n : Nat) (v : Int) (h : okT l n) (hl : n < l.length) (h0 : 0 ≤ v) (h1 : v < 4294967296) : okT (l.set n v) (n + 1) := fun j hj => by
  rw [rd_put l n v j z3]
  split
  · exact ⟨h0, h1⟩
  · exact h j z3
theorem V_put (l : List Int) (n : Nat) (v : Int) (hl : n < l.length) : V (l.set n v) (n + 1) = V l n + v * 4294967296 ^ n := by
  simp only [V]
  rw [V_set l n v hl n z3, if_neg z3, rd_put l n v n z3, if_pos rfl]; omega
theorem V_over (l : List Int) (n : Nat) (h : l.length ≤ n) : V l n = vW l := by
  induction n with
  | zero => obtain e : l.length = 0 := by omega
            show _ = V l l.length
            rw [e]
  | succ n ih =>
    by_cases e : l.length = n + 1
    · show _ = V l l.length
      rw [e]
    · simp only [V]
      rw [ih z3, rd_out l n z3]; omega
theorem V_rep (m : Nat) : ∀ n, V (List.replicate m 0) n = 0
  | 0 => rfl
  | n + 1 => by simp only [V]; rw [V_rep m n, rd_rep]; omega
theorem w64j (n : Nat) (h2 : n ≤ 1000000) : wrap64 ((n : Int) + 1) = ((n + 1 : Nat) : Int) := by unfold wrap64; omega
theorem u64d (n : Int) (h0 : 0 ≤ n) (h1 : n < 4294967296) : IntKind.u64.wrap n = n := u64w n h0 z3
def Val (f : Nat → Option (List Int)) (v : Int) : Prop := ∃ r, EvS f (some r) ∧ nW r ∧ vW r = v
theorem rd_any (b : List Int) (hb : okW b) (i : Nat) : 0 ≤ rd b (i : Int) ∧ rd b (i : Int) < 4294967296 := by
  by_cases h : i < b.length
  · exact hb i h
  · rw [rd_out b i z3]; omega
theorem plus_l0 (a b : List Int) (ha : okW a) (hb : okW b) (hlen : b.length ≤ a.length) (hl : a.length ≤ 100000) : ∀ (m i : Nat) (out : List Int) (c : Int), a.length - i = m → i ≤ a.length → out.length = a.length + 1 → okT out i → 0 ≤ c → c ≤ 1 → V out i + c * 4294967296 ^ i = V a i + V b i →
    Val (fun k => big_plus.l0 k a b out c (a.length : Int) (i : Int)) (vW a + vW b)
  | 0, i, out, c, hm, hi, ho, hk, hc0, hc1, hV => by
    obtain rfl : i = a.length := by omega
    obtain ⟨r, h1, h2, h3, h4⟩ := trim_val (out.set a.length (c % 4294967296)) (by rw [List.length_set]; omega) (fun j hj => okT_put out a.length _ hk z3 z3 z3 j (by rw [List.length_set] at hj; omega))
    refine ⟨r, h1.succ 0 fun k _ => ?_, h2, ?_⟩
    · rw [big_plus.l0, if_neg z3, if_pos z3, if_pos z3, Int.toNat_natCast]
      cases big_trim.f k (out.set a.length (c % 4294967296)) <;> rfl
    · rw [h3]
      show V (out.set a.length (c % 4294967296)) (out.set a.length (c % 4294967296)).length = _
      rw [List.length_set, ho, V_put out a.length _ z3, Int.emod_eq_of_lt z3 z3, hV, V_over b a.length hlen]
  | m + 1, i, out, c, hm, hi, ho, hk, hc0, hc1, hV => by
    obtain ⟨a1, a2⟩ := rd_any a ha i
    obtain ⟨b1, b2⟩ := rd_any b hb i
    obtain ⟨S, hS⟩ : ∃ S, S = c + rd a (i : Int) + rd b (i : Int) := ⟨_, rfl⟩
    obtain ⟨r, h1, h2, h3⟩ := plus_l0 a b ha hb hlen hl m (i + 1) (out.set i (S % 4294967296)) (S / 4294967296) z3 z3 (by rw [List.length_set]; exact ho) (okT_put out i _ hk z3 z3 z3) z3 z3 (by
      rw [V_put out i _ z3, Int.pow_succ]
      simp only [V]
      have := Int.emod_add_mul_ediv S 4294967296
      grind)
    refine ⟨r, h1.succ 0 fun k _ => ?_, h2, h3⟩
    rw [big_plus.l0, if_pos z3, if_pos z3, if_pos z3, w64j i z3, Int.toNat_natCast, u64d _ a1 a2, u64w (c + rd a (i : Int)) z3 z3]
    by_cases hbi : i < b.length
    · rw [if_pos z3, if_pos z3, u64d _ b1 b2, u64w (c + rd a (i : Int) + rd b (i : Int)) z3 z3, ← hS]
    · have e0 := rd_out b i z3
      have e1 : c + rd a (i : Int) = S := by rw [hS, e0]; omega
      rw [if_neg z3, if_pos z3, e1]
theorem plus_val (a b : List Int) (ha : okW a) (hb : okW b) (hlen : b.length ≤ a.length) (hl : a.length ≤ 100000) : Val (fun k => big_plus.f k a b) (vW a + vW b) := by
  obtain ⟨r, h1, h2, h3⟩ := plus_l0 a b ha hb hlen hl a.length 0 (List.replicate (a.length + 1) 0) 0 z3 z3 List.length_replicate (fun i hi => absurd hi z3) z3 z3 (by simp [V])
  refine ⟨r, h1.same fun k => ?_, h2, h3⟩
  show big_plus.f k a b = _
  unfold big_plus.f
  rw [w64j _ z3, Int.toNat_natCast, if_pos z3, if_pos z3]; rfl
theorem plus2_val (a b : List Int) (ha : okW a) (hb : okW b) (hl : a.length ≤ 100000) (hl2 : b.length ≤ 100000) : Val (fun k => plus2 k a b) (vW a + vW b) := by
  by_cases h : a.length < b.length
  · obtain ⟨r, h1, h2, h3⟩ := plus_val b a hb ha z3 hl2
    exact ⟨r, h1.same fun k => by show plus2 k a b = _; unfold plus2; rw [if_pos h], h2, by omega⟩
  · obtain ⟨r, h1, h2, h3⟩ := plus_val a b ha hb z3 hl
    exact ⟨r, h1.same fun k => by show plus2 k a b = _; unfold plus2; rw [if_neg h], h2, by omega⟩
theorem u64m (n : Int) (h0 : 0 ≤ n) : IntKind.u64.wrap n = n % 18446744073709551616 := rfl
theorem mul_bound (x y a b : Int) (hx0 : 0 ≤ x) (hx1 : x ≤ a) (hy0 : 0 ≤ y) (hy1 : y ≤ b) : 0 ≤ x * y ∧ x * y ≤ a * b :=
  ⟨Int.mul_nonneg hx0 hy0, Int.mul_le_mul hx1 hy1 hy0 z3⟩
theorem mul64_val (x y : Int) (hx0 : 0 ≤ x) (hx1 : x < 18446744073709551616) (hy0 : 0 ≤ y) (hy1 : y < 18446744073709551616) : ∃ hi lo, bits_Mul64.f x y = some (hi, lo) ∧ 0 ≤ hi ∧ hi < 18446744073709551616 ∧ 0 ≤ lo ∧ lo < 18446744073709551616 ∧ hi * 18446744073709551616 + lo = x * y := by
  (unfold bits_Mul64.f); rw [u64_and32 x hx0 hx1, u64_and32 y hy0 hy1]; (obtain ⟨x1, ex1⟩ : ∃ z, z = x / 4294967296 := ⟨_, rfl⟩); (obtain ⟨x0, ex0⟩ : ∃ z, z = x % 4294967296 := ⟨_, rfl⟩); (obtain ⟨y1, ey1⟩ : ∃ z, z = y / 4294967296 := ⟨_, rfl⟩); (obtain ⟨y0, ey0⟩ : ∃ z, z = y % 4294967296 := ⟨_, rfl⟩); rw [← ex1, ← ex0, ← ey1, ← ey0]; (obtain ⟨p1, p2⟩ := mul_bound x1 y1 4294967295 4294967295 z3 z3 z3 z3); (obtain ⟨p3, p4⟩ := mul_bound x1 y0 4294967295 4294967295 z3 z3 z3 z3); (obtain ⟨p5, p6⟩ := mul_bound x0 y1 4294967295 4294967295 z3 z3 z3 z3); (obtain ⟨p7, p8⟩ := mul_bound x0 y0 4294967295 4294967295 z3 z3 z3 z3); (have ex : x = x1 * 4294967296 + x0 := by omega); (have ey : y = y1 * 4294967296 + y0 := by omega); (have e : x * y = x1 * y1 * 18446744073709551616 + (x1 * y0 + x0 * y1) * 4294967296 + x0 * y0 := by rw [ex, ey]; grind); (obtain ⟨xy, hxy⟩ : ∃ z, z = x * y := ⟨_, rfl⟩); rw [← hxy] at e ⊢; clear hxy ex ey ex1 ex0 ey1 ey0; (generalize x1 * y1 = P at *); (generalize x1 * y0 = Q at *); (generalize x0 * y1 = R at *); (generalize x0 * y0 = S at *); (obtain ⟨T, hT⟩ : ∃ T, T = Q + S / 4294967296 := ⟨_, rfl⟩); rw [u64w P z3 z3, u64w Q z3 z3, u64w R z3 z3, u64w S z3 z3, u64w (Q + S / 4294967296) z3 z3, ← hT, u64_and32 T z3 z3, u64w (T % 4294967296 + R) z3 z3, u64w (P + T / 4294967296) z3 z3]
  (refine ⟨_, _, rfl, ?_⟩); rw [u64m xy z3, u64w (P + T / 4294967296 + (T % 4294967296 + R) / 4294967296) z3 z3]; omega
theorem Val.succ {f g : Nat → Option (List Int)} {v : Int} (h : Val g v) (hs : ∀ k, f (k + 1) = g k) : Val f v := by
  obtain ⟨r, h1, h2, h3⟩ := h
  exact ⟨r, h1.succ 0 fun k _ => hs k, h2, h3⟩
theorem Val.same {f g : Nat → Option (List Int)} {v : Int} (h : Val g v) (hs : ∀ k, f k = g k) : Val f v := by
  obtain ⟨r, h1, h2, h3⟩ := h
  exact ⟨r, h1.same hs, h2, h3⟩
theorem times_alg (Vo s0 s1 oj P c N d Vb bj P1 P2 S : Int) (hP : P = P1 * P2) (h4 : s0 + 4294967296 * s1 = S) (hS : S = c + (d * bj + oj)) (hV : Vo + c * P = N + d * Vb * P1) : Vo + (s0 - oj) * P + s1 * (P * 4294967296) = N + d * (Vb + bj * P2) * P1 := by
  grind
theorem times_l1 (b a : List Int) (hb : okW b) (hb2 : b.length ≤ 100000) (ha2 : a.length ≤ 100000) (i : Nat) (hi : i < a.length) (d : Int) (hd0 : 0 ≤ d) (hd1 : d < 4294967296) (N v : Int)
    (H : ∀ out' : List Int, out'.length = a.length + b.length → okT out' (i + 1 + b.length) → V out' (i + 1 + b.length) = N + d * vW b * 4294967296 ^ i → Val (fun k => big_times.l0 k b out' a (a.length : Int) ((i + 1 : Nat) : Int)) v) :
    ∀ (m j : Nat) (out : List Int) (c : Int), b.length - j = m → j ≤ b.length → out.length = a.length + b.length → okT out (i + b.length) → 0 ≤ c → c < 4294967296 → V out (i + b.length) + c * 4294967296 ^ (i + j) = N + d * V b j * 4294967296 ^ i →
    Val (fun k => big_times.l1 k b out (i : Int) d c a (a.length : Int) (i : Int) b (b.length : Int) (j : Int)) v
  | 0, j, out, c, hm, hj, ho, hk, hc0, hc1, hV => by
    have HV := aM hV
    clear hV
    obtain rfl : j = b.length := by omega
    have e : i + 1 + b.length = (i + b.length) + 1 := by omega
    have hk2 : okT (out.set (i + b.length) (c % 4294967296)) (i + 1 + b.length) := by
      rw [e]; exact okT_put out _ _ hk z3 z3 z3
    have hV2 : Aside0 (V (out.set (i + b.length) (c % 4294967296)) (i + 1 + b.length) = N + d * vW b * 4294967296 ^ i) := by
      constructor
      rw [e, V_put out _ _ z3, Int.emod_eq_of_lt hc0 hc1, HV.out]
    refine (H _ (by rw [List.length_set]; exact ho) hk2 hV2.out).succ fun k => ?_
    have e1 : wrap64 ((i : Int) + (b.length : Int)) = ((i + b.length : Nat) : Int) := by unfold wrap64; omega
    have q1 : ¬ (b.length : Int) < (b.length : Int) := by omega
    have q2 : (0 : Int) ≤ ((i + b.length : Nat) : Int) := Int.natCast_nonneg _
    have q3 : ((i + b.length : Nat) : Int) < (out.length : Int) := by omega
    show big_times.l1 (k + 1) b out (i : Int) d c a (a.length : Int) (i : Int) b (b.length : Int) (b.length : Int) = _
    rw [big_times.l1, if_neg q1, e1, if_pos q2, if_pos q3, Int.toNat_natCast, w64j i z3]
  | m + 1, j, out, c, hm, hj, ho, hk, hc0, hc1, hV => by
    have HV := aM hV
    clear hV
    have e1 : wrap64 ((i : Int) + (j : Int)) = ((i + j : Nat) : Int) := by unfold wrap64; omega
    have q1 : (j : Int) < (b.length : Int) := by omega
    have q2 : (0 : Int) ≤ (j : Int) := by omega
    have q3 : (0 : Int) ≤ ((i + j : Nat) : Int) := Int.natCast_nonneg _
    have q4 : ((i + j : Nat) : Int) < (out.length : Int) := by omega
    obtain ⟨b1, b2⟩ := hb j z3
    obtain ⟨o1, o2⟩ := hk (i + j) z3
    obtain ⟨p1, p2⟩ := mul_bound d (rd b (j : Int)) 4294967295 4294967295 z3 z3 z3 z3
    obtain ⟨S, hS⟩ : ∃ S, S = c + (d * rd b (j : Int) + rd out ((i + j : Nat) : Int)) := ⟨_, rfl⟩
    have hk2 : okT (out.set (i + j) (S % 4294967296)) (i + b.length) := okT_set out _ _ _ hk z3 z3 z3
    have hV2 : Aside0 (V (out.set (i + j) (S % 4294967296)) (i + b.length) + S / 4294967296 * 4294967296 ^ (i + (j + 1)) = N + d * V b (j + 1) * 4294967296 ^ i) := by
      constructor
      rw [V_set out (i + j) _ z3 _ z3, if_pos z3]
      have hV := HV.out
      have e2 : (4294967296 : Int) ^ (i + (j + 1)) = 4294967296 ^ (i + j) * 4294967296 := Int.pow_succ _ _
      rw [e2]
      exact times_alg _ _ _ _ _ _ _ _ _ _ _ _ S (Int.pow_add _ _ _) (Int.emod_add_mul_ediv S 4294967296) hS hV
    refine (times_l1 b a hb hb2 ha2 i hi d hd0 hd1 N v H m (j + 1) _ (S / 4294967296) z3 z3 (by rw [List.length_set]; exact ho) hk2 z3 z3 hV2.out).succ fun k => ?_
    show big_times.l1 (k + 1) b out (i : Int) d c a (a.length : Int) (i : Int) b (b.length : Int) (j : Int) = _
    rw [big_times.l1, if_pos q1, if_pos q2, if_pos q1, e1, if_pos q3, if_pos q4, Int.toNat_natCast, w64j j z3, u64d d hd0 hd1, u64d _ b1 b2, u64d _ o1 o2, u64w (d * rd b (j : Int)) z3 z3, u64w (d * rd b (j : Int) + rd out ((i + j : Nat) : Int)) z3 z3, u64w (c + (d * rd b (j : Int) + rd out ((i + j : Nat) : Int))) z3 z3, ← hS]
theorem times_l0 (b a : List Int) (ha : okW a) (hb : okW b) (hb2 : b.length ≤ 100000) (ha2 : a.length ≤ 100000) : ∀ (m i : Nat) (out : List Int), a.length - i = m → i ≤ a.length → out.length = a.length + b.length → okT out (i + b.length) → V out (i + b.length) = V a i * vW b →
    Val (fun k => big_times.l0 k b out a (a.length : Int) (i : Int)) (vW a * vW b)
  | 0, i, out, hm, hi, ho, hk, hV => by
    obtain rfl : i = a.length := by omega
    obtain ⟨r, h1, h2, h3, h4⟩ := trim_val out z3 (fun j hj => hk j z3)
    refine ⟨r, h1.succ 0 fun k _ => ?_, h2, ?_⟩
    · rw [big_times.l0, if_neg z3]
      cases big_trim.f k out <;> rfl
    · rw [h3]
      show V out out.length = _
      rw [ho, hV]
  | m + 1, i, out, hm, hi, ho, hk, hV => by
    obtain ⟨a1, a2⟩ := ha i z3
    have hz : V out (i + b.length) + 0 * 4294967296 ^ (i + 0) = V a i * vW b + rd a (i : Int) * V b 0 * 4294967296 ^ i := by
      rw [hV]; simp [V]
    refine (times_l1 b a hb hb2 ha2 i z3 (rd a (i : Int)) a1 a2 (V a i * vW b) _ (fun out' h1 h2 h3 => times_l0 b a ha hb hb2 ha2 m (i + 1) out' z3 z3 h1 h2 (by rw [h3]; simp only [V]; grind)) b.length 0 out 0 rfl z3 ho hk z3 z3 hz).succ fun k => ?_
    have q1 : (i : Int) < (a.length : Int) := by omega
    show big_times.l0 (k + 1) b out a (a.length : Int) (i : Int) = _
    rw [big_times.l0, if_pos q1, if_pos z3, if_pos q1]; rfl
theorem times_j0 (a b : List Int) (ha : okW a) (hb : okW b) (hb2 : b.length ≤ 100000) (ha2 : a.length ≤ 100000) : Val (fun k => big_times.j0 k a b) (vW a * vW b) := by
  refine (times_l0 b a ha hb hb2 ha2 a.length 0 (List.replicate (a.length + b.length) 0) z3 z3 List.length_replicate (fun i hi => by rw [rd_rep]; omega) (by rw [V_rep]; simp [V])).succ fun k => ?_
  have e1 : wrap64 ((a.length : Int) + (b.length : Int)) = ((a.length + b.length : Nat) : Int) := by unfold wrap64; omega
  show big_times.j0 (k + 1) a b = _
  rw [big_times.j0, e1, if_pos z3, Int.toNat_natCast, if_pos z3]; rfl
theorem vW4 (a b c d : Int) : vW [a, b, c, d] = a + b * 4294967296 + c * 18446744073709551616 + d * 79228162514264337593543950336 := by
  show ((0 + a * 4294967296 ^ 0) + b * 4294967296 ^ 1) + c * 4294967296 ^ 2 + d * 4294967296 ^ 3 = _
  simp only [Int.pow_zero, Int.pow_succ]; omega
theorem times_val (a b : List Int) (ha : nW a) (hb : nW b) (hb2 : b.length ≤ 100000) (ha2 : a.length ≤ 100000) : Val (fun k => big_times.f k a b) (vW a * vW b) := by
  (have H := times_j0 a b ha.1 hb.1 hb2 ha2); by_cases h1 : a.length ≤ 2; rotate_left
  · (refine H.same fun k => ?_); (show big_times.f k a b = _); (unfold big_times.f); rw [small_val a ha, if_neg h1]; rfl
  by_cases h2 : b.length ≤ 2; rotate_left
  · (refine H.same fun k => ?_); (show big_times.f k a b = _); (unfold big_times.f); rw [small_val a ha, small_val b hb, if_pos h1, if_neg h2]; rfl
  (obtain ⟨hi, lo, e, h3, h4, h5, h6, h7⟩ := mul64_val (vW a) (vW b) (vW_nonneg a ha.1) ((small_iff a ha).mp h1) (vW_nonneg b hb.1) ((small_iff b hb).mp h2))
  obtain ⟨r, r1, r2, r3, r4⟩ := trim_val [lo % 4294967296, (lo / 4294967296) % 4294967296, hi % 4294967296, (hi / 4294967296) % 4294967296] (by simp) (fun i hi' => by
    have : i = 0 ∨ i = 1 ∨ i = 2 ∨ i = 3 := by simp at hi'; omega
    rcases this with rfl | rfl | rfl | rfl
    · show 0 ≤ lo % 4294967296 ∧ lo % 4294967296 < 4294967296; omega
    · show 0 ≤ lo / 4294967296 % 4294967296 ∧ lo / 4294967296 % 4294967296 < 4294967296; omega
    · show 0 ≤ hi % 4294967296 ∧ hi % 4294967296 < 4294967296; omega
    · show 0 ≤ hi / 4294967296 % 4294967296 ∧ hi / 4294967296 % 4294967296 < 4294967296; omega)
  (refine ⟨r, r1.same fun k => ?_, r2, ?_⟩); rotate_left
  · rw [r3, vW4, ← h7]; omega
  (show big_times.f k a b = _); (unfold big_times.f); rw [small_val a ha, small_val b hb, if_pos h1, if_pos h2]; simp only [Option.bind_some, e]; (cases big_trim.f k _ <;> rfl)
theorem bitLenAux_spec : ∀ f x : Nat, x < 2 ^ f → x < 2 ^ Lib.bitLenAux f x ∧ ∀ m, x < 2 ^ m → Lib.bitLenAux f x ≤ m
  | 0, x, h => ⟨by simpa [Lib.bitLenAux] using h, fun m _ => Nat.zero_le _⟩
  | f + 1, x, h => by
    simp only [Lib.bitLenAux]
    by_cases h0 : x = 0
    · subst h0; exact ⟨by simp, fun m _ => by simp⟩
    · rw [if_neg h0]
      obtain ⟨h1, h2⟩ := bitLenAux_spec f (x / 2) (by rw [Nat.pow_succ] at h; omega)
      refine ⟨by rw [Nat.add_comm, Nat.pow_succ]; omega, fun m hm => ?_⟩
      cases m with
      | zero => simp at hm; omega
      | succ m => have := h2 m (by rw [Nat.pow_succ] at hm; omega)
                  omega
theorem pow2_nat (s : Nat) : ((2 ^ s : Nat) : Int) = (2 : Int) ^ s := by simp
theorem shift_ex (v : Int) (h0 : 0 < v) (h1 : v < 4294967296) : ∃ s : Nat, s ≤ 31 ∧ (32 - (Lib.bitLen v.toNat : Int)) = (s : Int) ∧ (v + 1) * 2 ^ s ≤ 4294967296 := by
  obtain ⟨x, rfl⟩ := Int.eq_ofNat_of_zero_le (Int.le_of_lt h0)
  rw [Int.toNat_natCast]
  obtain ⟨h2, h3⟩ := bitLenAux_spec 64 x z3
  have h4 := h3 32 z3
  change x < 2 ^ Lib.bitLen x at h2
  change Lib.bitLen x ≤ 32 at h4
  have h5 : Lib.bitLen x ≠ 0 := fun e => by rw [e] at h2; simp at h2; omega
  refine ⟨32 - Lib.bitLen x, by omega, by omega, ?_⟩
  have e : (2 : Nat) ^ 32 = 2 ^ Lib.bitLen x * 2 ^ (32 - Lib.bitLen x) := by rw [← Nat.pow_add]; congr 1; omega
  have h6 : (x + 1) * 2 ^ (32 - Lib.bitLen x) ≤ 2 ^ Lib.bitLen x * 2 ^ (32 - Lib.bitLen x) := Nat.mul_le_mul_right _ h2
  rw [← e] at h6
  have h7 : (((x + 1) * 2 ^ (32 - Lib.bitLen x) : Nat) : Int) ≤ ((2 ^ 32 : Nat) : Int) := by exact_mod_cast h6
  simpa using h7
theorem pow2_facts (s : Nat) (h : s ≤ 31) : 1 ≤ (2 : Int) ^ s ∧ (2 : Int) ^ s ≤ 2147483648 ∧ ∃ c, (4294967296 : Int) = 2 ^ s * c := by
  have h1 : 0 < 2 ^ s := Nat.two_pow_pos s
  have h2 : 2 ^ s ≤ 2 ^ 31 := Nat.pow_le_pow_right z3 h
  refine ⟨by rw [← pow2_nat]; omega, by rw [← pow2_nat]; omega, 2 ^ (32 - s), ?_⟩
  rw [← Int.pow_add]
  have : s + (32 - s) = 32 := by omega
  rw [this]; decide
theorem wraps_u32 (n : Int) (h₀ : 0 ≤ n) (h₁ : n < 2 ^ 32) : IntKind.u32.wrap n = n := by rw [IntKind.wrap_u32]; omega
theorem min64 (s : Nat) (h : s ≤ 31) : min (s : Int).toNat 64 = s := by rw [Int.toNat_natCast]; omega
theorem shl_val (x : Int) (s : Nat) (hs : s ≤ 31) (h0 : 0 ≤ x) (h1 : x < 4294967296) : shl .u64 (IntKind.u64.wrap x) (s : Int) = x * 2 ^ s := by
  obtain ⟨p1, p2, _⟩ := pow2_facts s hs
  obtain ⟨q1, q2⟩ := mul_bound x (2 ^ s) 4294967295 2147483648 h0 z3 z3 p2
  unfold shl
  rw [u64d x h0 h1]
  show IntKind.u64.wrap (x * 2 ^ min (s : Int).toNat 64) = _
  rw [min64 s hs, u64w _ q1 z3]
theorem or_low (y z P : Int) (s : Nat) (hP : P = 2 ^ s) (hs : s ≤ 31) (hy0 : 0 ≤ y) (hy1 : y < P) (hz0 : 0 ≤ z) (hz1 : z < 4294967296) (hz : z % P = 0) : Go.bits .or .u32 y z = y + z := by
  obtain ⟨p1, p2, _⟩ := pow2_facts s hs
  subst hP
  exact bits_join_low .u32 32 z9 wraps_u32 s y z hy0 hy1 (by simpa using (show y < 4294967296 by omega)) hz0 hz (by simpa using hz1)
theorem shift_alg (Vo o y q P Vl x W S r : Int) (h4 : r + 4294967296 * q = x * P) (hV : Vo + o * W = Vl * P) : Vo + (o + r) * W + q * (W * 4294967296) = (Vl + x * W) * P := by grind
theorem shift_l0 (l : List Int) (hl : okW l) (h2 : l.length ≤ 100000) (s : Nat) (hs : s ≤ 31) : ∀ (m i : Nat) (out : List Int), l.length - i = m → i ≤ l.length → out.length = l.length + 1 → okT out (i + 1) → rd out (i : Int) < 2 ^ s → V out (i + 1) = V l i * 2 ^ s →
    ∃ r, EvS (fun k => big_shift.l0 k (s : Int) out l (l.length : Int) (i : Int)) (some r) ∧ okW r ∧ r.length = l.length + 1 ∧ vW r = vW l * 2 ^ s
  | 0, i, out, hm, hi, ho, hk, hc, hV => by
    obtain rfl : i = l.length := by omega
    refine ⟨out, EvS.now 0 fun k _ => by rw [big_shift.l0, if_neg z3], fun j hj => hk j z3, ho, ?_⟩
    show V out out.length = _
    rw [ho, hV]
  | m + 1, i, out, hm, hi, ho, hk, hc, hV => by
    obtain ⟨x, hx⟩ : ∃ x, x = rd l (i : Int) := ⟨_, rfl⟩
    obtain ⟨x0, x1⟩ := hl i z3
    rw [← hx] at x0 x1
    obtain ⟨o0, o1⟩ := hk i z3
    obtain ⟨P, hP⟩ : ∃ P : Int, P = 2 ^ s := ⟨_, rfl⟩
    obtain ⟨p1, p2, c, p3⟩ := pow2_facts s hs
    rw [← hP] at p1 p2 p3 hc hV
    obtain ⟨q1, q2⟩ := mul_bound x P 4294967295 2147483648 x0 z3 z3 p2
    have hz : (x * P) % 4294967296 % P = 0 := by
      rw [Int.emod_emod_of_dvd _ ⟨c, p3⟩, Int.mul_emod_left]
    have hq : x * P / 4294967296 < P := by
      have h1 : x * P ≤ 4294967295 * P := Int.mul_le_mul_of_nonneg_right z3 z3
      omega
    have ho1 : okT out (i + 1) := hk
    have hor := or_low (rd out (i : Int)) (x * P % 4294967296) P s hP hs o0 hc z3 z3 hz
    obtain ⟨O, hO⟩ : ∃ O, O = (out.set i (rd out (i : Int) + x * P % 4294967296)).set (i + 1) (x * P / 4294967296 % 4294967296) := ⟨_, rfl⟩
    have e2 : x * P / 4294967296 % 4294967296 = x * P / 4294967296 := Int.emod_eq_of_lt z3 z3
    have hsum : rd out (i : Int) + x * P % 4294967296 < 4294967296 := by
      have h5 : x * P % 4294967296 ≤ 4294967296 - P := by
        obtain ⟨d, hd⟩ : ∃ d, x * P % 4294967296 = P * d := ⟨x * P % 4294967296 / P, by have := Int.emod_add_mul_ediv (x * P % 4294967296) P; omega⟩
        have h6 : x * P % 4294967296 < 4294967296 := by omega
        rw [hd, p3] at h6
        rw [hd, p3]
        have h7 : d < c := Int.lt_of_mul_lt_mul_left h6 z3
        have h8 : P * d ≤ P * (c - 1) := Int.mul_le_mul_of_nonneg_left z3 z3
        rw [Int.mul_sub] at h8; omega
      omega
    have hl1 : i < out.length := by omega
    have hl2 : i + 1 < (out.set i (rd out (i : Int) + x * P % 4294967296)).length := by rw [List.length_set]; omega
    have hOl : O.length = l.length + 1 := by rw [hO, List.length_set, List.length_set]; exact ho
    have hk1 : okT (out.set i (rd out (i : Int) + x * P % 4294967296)) (i + 1) := okT_set out (i + 1) i _ hk z3 z3 hsum
    have hk2 : okT O (i + 1 + 1) := by
      rw [hO]
      exact okT_put _ (i + 1) _ hk1 hl2 z3 z3
    have hc2 : rd O ((i + 1 : Nat) : Int) < 2 ^ s := by
      rw [hO, rd_put _ _ _ _ hl2, if_pos rfl, ← hP]; omega
    have hV2 : V O (i + 1 + 1) = V l (i + 1) * 2 ^ s := by
      rw [hO, V_put _ (i + 1) _ hl2, V_put out i _ hl1, e2, ← hP, Int.pow_succ]
      simp only [V] at hV ⊢
      rw [← hx]
      exact shift_alg (V out i) _ 0 _ P (V l i) x _ 0 _ (Int.emod_add_mul_ediv (x * P) 4294967296) hV
    obtain ⟨r, r1, r2, r3, r4⟩ := shift_l0 l hl h2 s hs m (i + 1) O z3 z3 hOl hk2 hc2 hV2
    refine ⟨r, r1.succ 0 fun k _ => ?_, r2, r3, r4⟩
    have q3 : (i : Int) < (l.length : Int) := by omega
    have q4 : (i : Int) < (out.length : Int) := by omega
    have q5 : ((i + 1 : Nat) : Int) < (out.length : Int) := by omega
    have z0 : (0 : Int) ≤ (i : Int) := Int.natCast_nonneg _
    rw [big_shift.l0, if_pos q3, if_pos z0, if_pos q3, if_pos (Int.natCast_nonneg _), if_pos q4, w64j i z3, if_pos (Int.natCast_nonneg _), if_pos q5, Int.toNat_natCast, Int.toNat_natCast, ← hx, shl_val x s hs x0 x1, ← hP, hor, ← hO]
theorem shift_val (l : List Int) (hl : okW l) (h2 : l.length ≤ 100000) (s : Nat) (hs : s ≤ 31) : ∃ r, EvS (fun k => big_shift.f k l (s : Int)) (some r) ∧ okW r ∧ r.length = l.length + 1 ∧ vW r = vW l * 2 ^ s := by
  obtain ⟨p1, p2, c, p3⟩ := pow2_facts s hs
  obtain ⟨r, r1, r2, r3, r4⟩ := shift_l0 l hl h2 s hs l.length 0 (List.replicate (l.length + 1) 0) z3 z3 List.length_replicate (fun j hj => by rw [rd_rep]; omega) (by rw [rd_rep]; omega) (by rw [V_rep]; simp [V])
  refine ⟨r, r1.same fun k => ?_, r2, r3, r4⟩
  show big_shift.f k l (s : Int) = _
  unfold big_shift.f
  rw [w64j _ z3, if_pos (Int.natCast_nonneg _), Int.toNat_natCast, if_pos z3]; rfl
theorem rd_set_ne (l : List Int) (i : Nat) (v : Int) (t : Nat) (h : t ≠ i) : rd (l.set i v) (t : Int) = rd l (t : Int) := by
  by_cases hl : t < l.length
  · rw [rd_put l i v t hl, if_neg h]
  · rw [rd_out _ t (by rw [List.length_set]; omega), rd_out l t z3]
theorem takeC_val (q : Int) (d : List Int) (hd : okW d) (i : Nat) (c : Int) (hq0 : 0 ≤ q) (hq1 : q < 4294967296) (hc0 : 0 ≤ c) (hc1 : c < 4294967296) :
    takeC q d i c = c + q * rd d (i : Int) ∧ 0 ≤ c + q * rd d (i : Int) ∧ c + q * rd d (i : Int) < 18446744069414584321 := by
  obtain ⟨d0, d1⟩ := rd_any d hd i
  obtain ⟨p1, p2⟩ := mul_bound q (rd d (i : Int)) 4294967295 4294967295 hq0 z3 d0 z3
  refine ⟨?_, by omega, by omega⟩
  unfold takeC
  split
  · rw [u64d _ d0 d1, u64w (q * rd d (i : Int)) p1 z3, u64w _ z3 z3]
  · rename_i h
    rw [rd_out d i z3]; omega
theorem takeV_val (x b c : Int) (hx0 : 0 ≤ x) (hx1 : x < 4294967296) (hb0 : 0 ≤ b) (hb1 : b ≤ 1) (hc0 : 0 ≤ c) (hc1 : c < 18446744073709551616) :
    takeV x b c % 4294967296 - takeV x b c / 9223372036854775808 * 4294967296 = x - c % 4294967296 - b ∧ 0 ≤ takeV x b c / 9223372036854775808 ∧ takeV x b c / 9223372036854775808 ≤ 1 := by
  unfold takeV
  rw [u64_and32 c hc0 hc1, u64d x hx0 hx1]
  have e : IntKind.u64.wrap (IntKind.u64.wrap (x - c % 4294967296) - b) = (x - c % 4294967296 - b) % 18446744073709551616 := by
    show ((x - c % 4294967296) % 18446744073709551616 - b) % 18446744073709551616 = _
    omega
  rw [e]; omega
theorem take_alg (Vr VL Vd x b b' t c c' di q P PJ S : Int) (hS : S = c + q * di) (h1 : t - b' * 4294967296 = x - S % 4294967296 - b) (h2 : S % 4294967296 + 4294967296 * c' = S) (hV : Vr = VL - q * Vd * PJ + (b + c) * (PJ * P)) :
    Vr + t * (PJ * P) = VL + x * (PJ * P) - q * (Vd + di * P) * PJ + (b' + c') * (PJ * P * 4294967296) := by
  generalize S % 4294967296 = s0 at *
  grind
theorem take_val (L : List Int) (j : Nat) (d : List Int) (q : Int) (hL : okW L) (hd : okW d) (hq0 : 0 ≤ q) (hq1 : q < 4294967296) : ∀ i, j + i ≤ L.length →
    V (takeTo L j d q i).2.2 (j + i) = V L (j + i) - q * V d i * 4294967296 ^ j + ((takeTo L j d q i).1 + (takeTo L j d q i).2.1) * (4294967296 ^ j * 4294967296 ^ i) ∧
    0 ≤ (takeTo L j d q i).1 ∧ (takeTo L j d q i).1 ≤ 1 ∧ 0 ≤ (takeTo L j d q i).2.1 ∧ (takeTo L j d q i).2.1 < 4294967296 ∧ okW (takeTo L j d q i).2.2 ∧ (∀ t, t < j ∨ j + i ≤ t → rd (takeTo L j d q i).2.2 (t : Int) = rd L (t : Int))
  | 0, h => ⟨by show V L j = V L j - q * 0 * _ + (0 + 0) * _; simp, Int.le_refl _, by show (0 : Int) ≤ 1; decide, Int.le_refl _, by show (0 : Int) < 4294967296; decide, hL, fun t _ => rfl⟩
  | i + 1, h => by
    obtain ⟨hV, b0, b1, c0, c1, hk, hr⟩ := take_val L j d q hL hd hq0 hq1 i z3
    have hlen := takeTo_len L j d q i
    obtain ⟨R, hR⟩ : ∃ R, R = (takeTo L j d q i).2.2 := ⟨_, rfl⟩
    obtain ⟨b, hb⟩ : ∃ R, R = (takeTo L j d q i).1 := ⟨_, rfl⟩
    obtain ⟨c, hc⟩ : ∃ R, R = (takeTo L j d q i).2.1 := ⟨_, rfl⟩
    simp only [takeTo]
    rw [← hR] at hV hk hr hlen ⊢
    rw [← hb] at hV b0 b1 ⊢
    rw [← hc] at hV c0 c1 ⊢
    clear hR hb hc
    obtain ⟨k1, k2, k3⟩ := takeC_val q d hd i c hq0 hq1 c0 c1
    have ex := hr (j + i) (.inr (Nat.le_refl _))
    obtain ⟨x0, x1⟩ := hk (j + i) z3
    rw [ex] at x0 x1 ⊢
    rw [k1]
    obtain ⟨S, hS⟩ : ∃ S, S = c + q * rd d (i : Int) := ⟨_, rfl⟩
    rw [← hS] at k2 k3 ⊢
    obtain ⟨v1, v2, v3⟩ := takeV_val (rd L ((j + i : Nat) : Int)) b S x0 x1 b0 b1 k2 z3
    generalize takeV (rd L ((j + i : Nat) : Int)) b S = T at v1 v2 v3 ⊢
    have hl : j + i < R.length := by omega
    refine ⟨?_, v2, v3, by omega, by omega, fun t ht => ?_, fun t ht => ?_⟩
    · have e1 : j + (i + 1) = j + i + 1 := rfl
      rw [e1, V_put R (j + i) _ hl, Int.pow_add 4294967296 j i, Int.pow_succ 4294967296 i, ← Int.mul_assoc (4294967296 ^ j) (4294967296 ^ i) 4294967296]
      simp only [V]
      rw [Int.pow_add 4294967296 j i]
      exact take_alg _ _ _ _ b _ _ c _ _ q _ _ S hS v1 (Int.emod_add_mul_ediv S 4294967296) hV
    · rw [List.length_set] at ht
      rw [rd_put _ _ _ _ z3]
      split
      · omega
      · exact hk t ht
    · rw [rd_set_ne R (j + i) _ t z3]
      exact hr t z3
theorem giveC_val (R : List Int) (hR : okW R) (j : Nat) (d : List Int) (hd : okW d) (i : Nat) (c : Int) (hc0 : 0 ≤ c) (hc1 : c ≤ 1) :
    giveC R j d i c = c + rd R ((j + i : Nat) : Int) + rd d (i : Int) ∧ 0 ≤ giveC R j d i c ∧ giveC R j d i c < 8589934592 := by
  obtain ⟨d0, d1⟩ := rd_any d hd i
  obtain ⟨x0, x1⟩ := rd_any R hR (j + i)
  have e : giveC R j d i c = c + rd R ((j + i : Nat) : Int) + rd d (i : Int) := by
    unfold giveC
    rw [u64d _ x0 x1, u64w (c + rd R ((j + i : Nat) : Int)) z3 z3]
    split
    · rw [u64d _ d0 d1, u64w _ z3 z3]
    · rename_i h
      rw [rd_out d i z3]; omega
  rw [e]
  exact ⟨rfl, by omega, by omega⟩
theorem give_alg (Vr VL Vd x c c' t di P PJ S : Int) (hS : S = c + x + di) (h2 : t + 4294967296 * c' = S) (hV : Vr + c * (PJ * P) = VL + Vd * PJ) :
    Vr + t * (PJ * P) + c' * (PJ * P * 4294967296) = VL + x * (PJ * P) + (Vd + di * P) * PJ := by grind
theorem give_val (L : List Int) (j : Nat) (d : List Int) (hL : okW L) (hd : okW d) : ∀ i, j + i ≤ L.length →
    V (giveTo L j d i).2 (j + i) + (giveTo L j d i).1 * (4294967296 ^ j * 4294967296 ^ i) = V L (j + i) + V d i * 4294967296 ^ j ∧
    0 ≤ (giveTo L j d i).1 ∧ (giveTo L j d i).1 ≤ 1 ∧ okW (giveTo L j d i).2 ∧ (∀ t, t < j ∨ j + i ≤ t → rd (giveTo L j d i).2 (t : Int) = rd L (t : Int))
  | 0, h => ⟨by show V L j + 0 * _ = V L j + 0 * _; simp, Int.le_refl _, by show (0 : Int) ≤ 1; decide, hL, fun t _ => rfl⟩
  | i + 1, h => by
    obtain ⟨hV, c0, c1, hk, hr⟩ := give_val L j d hL hd i z3
    have hlen := giveTo_len L j d i
    simp only [giveTo]
    obtain ⟨R, hR⟩ : ∃ R, R = (giveTo L j d i).2 := ⟨_, rfl⟩
    obtain ⟨c, hc⟩ : ∃ R, R = (giveTo L j d i).1 := ⟨_, rfl⟩
    rw [← hR] at hV hk hr hlen ⊢
    rw [← hc] at hV c0 c1 ⊢
    clear hR hc
    obtain ⟨k1, k2, k3⟩ := giveC_val R hk j d hd i c c0 c1
    rw [hr (j + i) (.inr (Nat.le_refl _))] at k1
    obtain ⟨S, hS⟩ : ∃ S, S = giveC R j d i c := ⟨_, rfl⟩
    rw [← hS] at k1 k2 k3 ⊢
    have hl : j + i < R.length := by omega
    refine ⟨?_, by omega, by omega, fun t ht => ?_, fun t ht => ?_⟩
    · have e1 : j + (i + 1) = j + i + 1 := rfl
      rw [e1, V_put R (j + i) _ hl, Int.pow_add 4294967296 j i, Int.pow_succ 4294967296 i, ← Int.mul_assoc (4294967296 ^ j) (4294967296 ^ i) 4294967296]
      simp only [V]
      rw [Int.pow_add 4294967296 j i]
      exact give_alg _ _ _ _ c _ _ _ _ _ S k1 (Int.emod_add_mul_ediv S 4294967296) hV
    · rw [List.length_set] at ht
      rw [rd_put _ _ _ _ z3]
      split
      · omega
      · exact hk t ht
    · rw [rd_set_ne R (j + i) _ t z3]
      exact hr t z3
theorem mul_cancel_lt (a b c : Int) (hc : 0 < c) (h : a * c < b * c) : a < b := Int.lt_of_mul_lt_mul_right h z3
theorem guess_val (v1 v2 u2 T qs : Int) (hv0 : 0 < v1) (hv1 : v1 < 4294967296) (hw0 : 0 ≤ v2) (hw1 : v2 < 4294967296) (hu0 : 0 ≤ u2) (hu1 : u2 < 4294967296) (hT : T < v1 * 4294967296 + 4294967296) (hqs0 : 0 ≤ qs) (hqs : qs < 4294967296) (H : qs * (v1 * 4294967296 + v2) ≤ T * 4294967296 + u2) :
    ∀ (m : Nat) (q r : Int), 4294967296 - r ≤ m → q * v1 + r = T → 0 ≤ r → r < 8589934592 → qs ≤ q → q < 18446744073709551616 →
    ∃ q' r', EvS (fun k => guess v1 v2 u2 k q r) (some (q', r')) ∧ qs ≤ q' ∧ q' < 4294967296 ∧ q' * (v1 * 4294967296 + v2) ≤ T * 4294967296 + u2 := by
  intro m
  induction m with
  | zero =>
    intro q r hm he hr0 hr1 hq hq1
    have hq2 : q < 4294967296 := by
      rcases Int.lt_or_le q 4294967296 with h | h
      · exact h
      · have : 4294967296 * v1 ≤ q * v1 := Int.mul_le_mul_of_nonneg_right h z3
        omega
    obtain ⟨p1, p2⟩ := mul_bound q v2 4294967295 4294967295 z3 z3 hw0 z3
    refine ⟨q, r, EvS.now 0 fun k _ => by rw [guess, if_neg z3], hq, hq2, ?_⟩
    have e : q * (v1 * 4294967296 + v2) = (T - r) * 4294967296 + q * v2 := by rw [← he]; grind
    rw [e]; omega
  | succ m ih =>
    intro q r hm he hr0 hr1 hq hq1
    by_cases hr : r < 4294967296
    · by_cases hb : 4294967296 ≤ q
      · obtain ⟨q', r', h1, h2⟩ := ih (q - 1) (r + v1) z3 (by rw [← he]; grind) z3 z3 z3 z3
        refine ⟨q', r', h1.succ 0 fun k _ => ?_, h2⟩
        rw [guess, if_pos hr, if_pos hb, u64w (q - 1) z3 z3, u64d v1 z3 hv1, u64w (r + v1) z3 z3]
      · obtain ⟨p1, p2⟩ := mul_bound q v2 4294967295 4294967295 z3 z3 hw0 z3
        have e0 : q * (v1 * 4294967296 + v2) = (T - r) * 4294967296 + q * v2 := by rw [← he]; grind
        by_cases hg : r * 4294967296 + u2 < q * v2
        · have hne : qs ≠ q := fun e => by rw [e, e0] at H; omega
          have hq0 : 0 < q := by
            omega
          obtain ⟨q', r', h1, h2⟩ := ih (q - 1) (r + v1) z3 (by rw [← he]; grind) z3 z3 z3 z3
          refine ⟨q', r', h1.succ 0 fun k _ => ?_, h2⟩
          rw [guess, if_pos hr, if_neg hb, u64w (r * 4294967296) z3 z3, u64d u2 hu0 hu1, u64d v2 hw0 hw1, u64w (q * v2) p1 z3, u64_or32 r u2 hr0 hr hu0 hu1, if_pos hg, u64w (q - 1) z3 z3, u64d v1 z3 hv1, u64w (r + v1) z3 z3]
        · refine ⟨q, r, EvS.now 0 fun k _ => ?_, hq, by omega, by rw [e0]; omega⟩
          rw [guess, if_pos hr, if_neg hb, u64w (r * 4294967296) z3 z3, u64d u2 hu0 hu1, u64d v2 hw0 hw1, u64w (q * v2) p1 z3, u64_or32 r u2 hr0 hr hu0 hu1, if_neg hg]
    · have hq2 : q < 4294967296 := by
        rcases Int.lt_or_le q 4294967296 with h | h
        · exact h
        · have : 4294967296 * v1 ≤ q * v1 := Int.mul_le_mul_of_nonneg_right h z3
          omega
      obtain ⟨p1, p2⟩ := mul_bound q v2 4294967295 4294967295 z3 z3 hw0 z3
      refine ⟨q, r, EvS.now 0 fun k _ => by rw [guess, if_neg z3], hq, hq2, ?_⟩
      have e : q * (v1 * 4294967296 + v2) = (T - r) * 4294967296 + q * v2 := by rw [← he]; grind
      rw [e]; omega
theorem knuth (seg Vd low T u2 lowd v1 v2 Q qs : Int) (hQ : 1 ≤ Q) (hl0 : 0 ≤ low) (hl1 : low + 1 ≤ Q) (hd0 : 0 ≤ lowd) (hd1 : lowd + 1 ≤ Q) (hs : seg = low + (T * 4294967296 + u2) * Q) (hV : Vd = lowd + (v1 * 4294967296 + v2) * Q)
    (hv0 : 0 < v1) (hw0 : 0 ≤ v2) (hw1 : v2 < 4294967296) (hu0 : 0 ≤ u2) (hu1 : u2 < 4294967296) (hseg : seg < Vd * 4294967296) (h1 : qs * Vd ≤ seg) (h2 : seg < (qs + 1) * Vd) (hqs : 0 ≤ qs) :
    T < v1 * 4294967296 + 4294967296 ∧ qs * (v1 * 4294967296 + v2) ≤ T * 4294967296 + u2 ∧ ∀ q, q < 4294967296 → qs ≤ q → q * (v1 * 4294967296 + v2) ≤ T * 4294967296 + u2 → q ≤ qs + 1 := by
  (refine ⟨?_, ?_, fun q hq hq2 hq3 => ?_⟩)
  · (apply mul_cancel_lt _ _ (Q * 4294967296) z3); (have e1 : T * (Q * 4294967296) = T * 4294967296 * Q := by grind); (have e2 : (v1 * 4294967296 + 4294967296) * (Q * 4294967296) = ((v1 * 4294967296 + v2) * Q + (4294967296 - v2) * Q) * 4294967296 := by grind); (have h3 : 1 * Q ≤ (4294967296 - v2) * Q := Int.mul_le_mul_of_nonneg_right z3 z3); (have e3 : (T * 4294967296 + u2) * Q = T * 4294967296 * Q + u2 * Q := by grind); (have h4 : 0 ≤ u2 * Q := Int.mul_nonneg hu0 z3); rw [e1, e2]; (generalize (v1 * 4294967296 + v2) * Q = A at *); (generalize T * 4294967296 * Q = C at *); (generalize (4294967296 - v2) * Q = D at *); (generalize u2 * Q = E at *); omega
  · have h3 : qs * (v1 * 4294967296 + v2) < T * 4294967296 + u2 + 1 := by
      apply mul_cancel_lt _ _ Q z3
      have e1 : qs * (v1 * 4294967296 + v2) * Q = qs * Vd - qs * lowd := by rw [hV]; grind
      have h4 : 0 ≤ qs * lowd := Int.mul_nonneg hqs hd0
      have e2 : (T * 4294967296 + u2 + 1) * Q = (T * 4294967296 + u2) * Q + Q := by grind
      rw [e1, e2]; omega
    omega
  (rcases Int.lt_or_le (qs + 1) q with h | h); rotate_left
  · (exact h)
  (exfalso)
  have hVd : 0 < Vd := by
    have : 0 ≤ (v1 * 4294967296 + v2) * Q := Int.mul_nonneg z3 z3
    have h5 : 1 * Q ≤ (v1 * 4294967296 + v2) * Q := Int.mul_le_mul_of_nonneg_right z3 z3
    omega
  (have h3 : (qs + 1) * Vd ≤ (q - 1) * Vd := Int.mul_le_mul_of_nonneg_right z3 z3); (have h4 : q * (v1 * 4294967296 + v2) * Q ≤ (T * 4294967296 + u2) * Q := Int.mul_le_mul_of_nonneg_right hq3 z3); (have e1 : q * (v1 * 4294967296 + v2) * Q = q * Vd - q * lowd := by rw [hV]; grind); (have e2 : (q - 1) * Vd = q * Vd - Vd := by grind); (have h5 : q * lowd ≤ q * (Q - 1) := Int.mul_le_mul_of_nonneg_left z3 z3); (have e3 : q * (Q - 1) = q * Q - q := by grind); (have h6 : q * Q ≤ 4294967295 * Q := Int.mul_le_mul_of_nonneg_right z3 z3); (have h7 : 4294967296 * Q ≤ (v1 * 4294967296 + v2) * Q := Int.mul_le_mul_of_nonneg_right z3 z3); (generalize (v1 * 4294967296 + v2) * Q = A at *); (generalize (T * 4294967296 + u2) * Q = C at *); omega
theorem rd_drop (l : List Int) (j i : Nat) : rd (l.drop j) (i : Int) = rd l ((j + i : Nat) : Int) := by
  show (l.drop j).getD i 0 = l.getD (j + i) 0
  rw [List.getD_eq_getElem?_getD, List.getElem?_drop, List.getD_eq_getElem?_getD]
theorem V_split (l : List Int) (j : Nat) : ∀ i, V l (j + i) = V l j + V (l.drop j) i * 4294967296 ^ j
  | 0 => by show V l j = _ + 0 * _; omega
  | i + 1 => by
    show V l (j + i) + rd l ((j + i : Nat) : Int) * 4294967296 ^ (j + i) = _ + (V (l.drop j) i + rd (l.drop j) (i : Int) * 4294967296 ^ i) * _
    rw [V_split l j i, rd_drop, Int.pow_add]; grind
theorem okW_drop (l : List Int) (j : Nat) (h : okW l) : okW (l.drop j) := fun i hi => by
  rw [rd_drop]; exact rd_any l h _
theorem V_any (l : List Int) (h : okW l) : ∀ n, 0 ≤ V l n ∧ V l n + 1 ≤ 4294967296 ^ n
  | 0 => by simp [V]
  | n + 1 => by
    obtain ⟨h1, h2⟩ := V_any l h n
    obtain ⟨h3, h4⟩ := rd_any l h n
    have hp := powB n
    have h5 : 0 ≤ rd l (n : Int) * 4294967296 ^ n := Int.mul_nonneg h3 z3
    have h6 : rd l (n : Int) * 4294967296 ^ n ≤ 4294967295 * 4294967296 ^ n := Int.mul_le_mul_of_nonneg_right z3 z3
    rw [Int.pow_succ]
    simp only [V]
    omega
theorem take_carry (L : List Int) (j : Nat) (d : List Int) (q : Int) (hL : okW L) (hd : okW d) (hq0 : 0 ≤ q) (hq1 : q < 4294967296) (hl : j + d.length + 1 ≤ L.length) : (takeTo L j d q (d.length + 1)).2.1 = 0 := by
  obtain ⟨h1, h2, h3, h4, h5, h6, h7⟩ := take_val L j d q hL hd hq0 hq1 d.length z3
  show takeC q d d.length (takeTo L j d q d.length).2.1 / 4294967296 = 0
  unfold takeC
  rw [if_neg z3]; omega
theorem step_val (R : List Int) (j : Nat) (d : List Int) (hR : okW R) (hd : okW d) (hl : j + d.length + 1 ≤ R.length) (qs q : Int) (hq : q = qs ∨ q = qs + 1) (hq0 : 0 ≤ qs) (hq1 : q < 4294967296)
    (h1 : qs * vW d ≤ V (R.drop j) (d.length + 1)) (h2 : V (R.drop j) (d.length + 1) < (qs + 1) * vW d) :
    ∃ q' R', (if ((takeTo R j d q (d.length + 1)).1 != 0) = true then (IntKind.u64.wrap (q - 1), (giveTo (takeTo R j d q (d.length + 1)).2.2 j d (d.length + 1)).2) else (q, (takeTo R j d q (d.length + 1)).2.2)) = (q', R') ∧
      q' = qs ∧ okW R' ∧ R'.length = R.length ∧ V R' (j + (d.length + 1)) = V R (j + (d.length + 1)) - qs * vW d * 4294967296 ^ j ∧ (∀ t, j + (d.length + 1) ≤ t → rd R' (t : Int) = rd R (t : Int)) := by
  (obtain ⟨t1, t2, t3, t4, t5, t6, t7⟩ := take_val R j d q hR hd z3 hq1 (d.length + 1) z3); (have tc := take_carry R j d q hR hd z3 hq1 z3); (have tl := takeTo_len R j d q (d.length + 1)); rw [tc] at t1; (have eV : V d (d.length + 1) = vW d := V_over d _ z3); rw [eV] at t1; (obtain ⟨b, hb⟩ : ∃ b, b = (takeTo R j d q (d.length + 1)).1 := ⟨_, rfl⟩); (obtain ⟨M, hM⟩ : ∃ b, b = (takeTo R j d q (d.length + 1)).2.2 := ⟨_, rfl⟩); rw [← hb] at t1 t2 t3 ⊢; rw [← hM] at t1 t6 t7 tl ⊢; (have hs := V_split R j (d.length + 1)); (obtain ⟨l0, l1⟩ := V_any R hR j); (obtain ⟨m0, m1⟩ := V_any M t6 (j + (d.length + 1))); (obtain ⟨s0, s1⟩ := V_any (R.drop j) (okW_drop R j hR) (d.length + 1)); (have hp := powB j); (have hp2 := powB (d.length + 1)); (have ep : (4294967296 : Int) ^ (j + (d.length + 1)) = 4294967296 ^ j * 4294967296 ^ (d.length + 1) := Int.pow_add _ _ _); (generalize hseg : V (R.drop j) (d.length + 1) = seg at *); (generalize hvd : vW d = Vd at *); (generalize hPJ : (4294967296 : Int) ^ j = PJ at *); (generalize hPN : (4294967296 : Int) ^ (d.length + 1) = PN at *); (generalize hVj : V R j = low at *); by_cases h0 : b = 0
  · (refine ⟨q, M, by rw [if_neg (by simp [h0])], ?_, t6, tl, ?_, fun t ht => t7 t (.inr ht)⟩)
    · (rcases hq with hq | hq)
      · (exact hq)
      (exfalso); (have h3 : (seg + 1) * PJ ≤ (qs + 1) * Vd * PJ := Int.mul_le_mul_of_nonneg_right z3 z3); rw [h0, hs, hq] at t1; (have e1 : (seg + 1) * PJ = seg * PJ + PJ := by grind); (have e2 : (0 + 0) * (PJ * PN) = (0 : Int) := by simp); rw [e2] at t1; (generalize (qs + 1) * Vd * PJ = A at *); (generalize seg * PJ = C at *); omega
    have hqq : q = qs := by
      rcases hq with hq | hq
      · exact hq
      · exfalso
        have h3 : (seg + 1) * PJ ≤ (qs + 1) * Vd * PJ := Int.mul_le_mul_of_nonneg_right z3 z3
        rw [h0, hs, hq] at t1
        have e1 : (seg + 1) * PJ = seg * PJ + PJ := by grind
        have e2 : (0 + 0) * (PJ * PN) = (0 : Int) := by simp
        rw [e2] at t1
        generalize (qs + 1) * Vd * PJ = A at *
        generalize seg * PJ = C at *
        omega
    rw [t1, h0, hqq]; simp
  (have hb1 : b = 1 := by omega); subst hb1; (obtain ⟨g1, g2, g3, g4, g5⟩ := give_val M j d t6 hd (d.length + 1) z3); (have gl := giveTo_len M j d (d.length + 1)); rw [eV, hPJ, hPN] at g1; (obtain ⟨c, hc⟩ : ∃ b, b = (giveTo M j d (d.length + 1)).1 := ⟨_, rfl⟩); (obtain ⟨N, hN⟩ : ∃ b, b = (giveTo M j d (d.length + 1)).2 := ⟨_, rfl⟩); rw [← hc] at g1 g2 g3; rw [← hN] at g1 g4 g5 gl ⊢; (obtain ⟨n0, n1⟩ := V_any N g4 (j + (d.length + 1))); rw [ep] at m1 n1
  have hqq : q = qs + 1 := by
    rcases hq with hq | hq
    · exfalso
      have h3 : qs * Vd * PJ ≤ seg * PJ := Int.mul_le_mul_of_nonneg_right h1 z3
      rw [hs, hq] at t1
      have e2 : (1 + 0) * (PJ * PN) = PJ * PN := by simp
      rw [e2] at t1
      generalize qs * Vd * PJ = A at *
      generalize seg * PJ = C at *
      generalize PJ * PN = D at *
      omega
    · exact hq
  have hc1 : c = 1 := by
    rcases (show c = 0 ∨ c = 1 by omega) with h | h
    · exfalso
      rw [h] at g1
      have h3 : qs * Vd * PJ ≤ seg * PJ := Int.mul_le_mul_of_nonneg_right h1 z3
      have e3 : q * Vd * PJ = qs * Vd * PJ + Vd * PJ := by rw [hqq]; grind
      rw [hs, e3] at t1
      have e2 : (1 + 0) * (PJ * PN) = PJ * PN := by simp
      have e4 : 0 * (PJ * PN) = 0 := by simp
      rw [e2] at t1
      rw [e4] at g1
      generalize qs * Vd * PJ = A at *
      generalize seg * PJ = C at *
      generalize PJ * PN = D at *
      generalize Vd * PJ = E at *
      omega
    · exact h
  (refine ⟨_, N, by rw [if_pos z9], by rw [u64d _ z3 z3]; omega, g4, by rw [gl, tl], ?_, fun t ht => by rw [g5 t (.inr ht), t7 t (.inr ht)]⟩); rw [hc1, t1, hqq] at g1; (have e3 : (qs + 1) * Vd * PJ = qs * Vd * PJ + Vd * PJ := by grind); rw [e3] at g1; (have e2 : (1 + 0) * (PJ * PN) = PJ * PN := by simp); (have e4 : 1 * (PJ * PN) = PJ * PN := by simp); rw [e2, e4] at g1; omega
theorem longStep_val (p : Nat) (d : List Int) (hd : okW d) (hn : d.length = p + 2) (htop : 0 < rd d ((p + 1 : Nat) : Int)) (j : Nat) (R : List Int) (hR : okW R) (hl : j + (p + 2) + 1 ≤ R.length) (hseg : V (R.drop j) (p + 3) < vW d * 4294967296) :
    ∃ q R', EvS (fun k => longStep k (p + 2) d j R) (some (q, R')) ∧ 0 ≤ q ∧ q < 4294967296 ∧ okW R' ∧ R'.length = R.length ∧ V R' (j + (p + 3)) = V R (j + (p + 3)) - q * vW d * 4294967296 ^ j ∧ (∀ t, j + (p + 3) ≤ t → rd R' (t : Int) = rd R (t : Int)) ∧
      q * vW d ≤ V (R.drop j) (p + 3) ∧ V (R.drop j) (p + 3) < (q + 1) * vW d := by
  (obtain ⟨u, hu⟩ : ∃ x, x = rd R ((j + (p + 2) : Nat) : Int) := ⟨_, rfl⟩); (obtain ⟨u1, hu1⟩ : ∃ x, x = rd R ((j + (p + 1) : Nat) : Int) := ⟨_, rfl⟩); (obtain ⟨u2, hu2⟩ : ∃ x, x = rd R ((j + p : Nat) : Int) := ⟨_, rfl⟩); (obtain ⟨v1, hv1⟩ : ∃ x, x = rd d ((p + 1 : Nat) : Int) := ⟨_, rfl⟩); (obtain ⟨v2, hv2⟩ : ∃ x, x = rd d (p : Int) := ⟨_, rfl⟩); (obtain ⟨a1, a2⟩ := rd_any R hR (j + (p + 2))); (obtain ⟨a3, a4⟩ := rd_any R hR (j + (p + 1))); (obtain ⟨a5, a6⟩ := rd_any R hR (j + p)); (obtain ⟨b1, b2⟩ := rd_any d hd (p + 1)); (obtain ⟨b3, b4⟩ := rd_any d hd p); rw [← hu] at a1 a2; rw [← hu1] at a3 a4; rw [← hu2] at a5 a6; rw [← hv1] at b1 b2 htop; rw [← hv2] at b3 b4
  have eS : V (R.drop j) (p + 3) = V (R.drop j) p + ((u * 4294967296 + u1) * 4294967296 + u2) * 4294967296 ^ p := by
    show ((V (R.drop j) p + rd (R.drop j) (p : Int) * 4294967296 ^ p) + rd (R.drop j) ((p + 1 : Nat) : Int) * 4294967296 ^ (p + 1)) + rd (R.drop j) ((p + 2 : Nat) : Int) * 4294967296 ^ (p + 2) = _
    rw [rd_drop, rd_drop, rd_drop, ← hu, ← hu1, ← hu2, Int.pow_succ _ (p + 1), Int.pow_succ _ p]; grind
  have eD : vW d = V d p + (v1 * 4294967296 + v2) * 4294967296 ^ p := by
    show V d d.length = _
    rw [hn]
    show (V d p + rd d (p : Int) * 4294967296 ^ p) + rd d ((p + 1 : Nat) : Int) * 4294967296 ^ (p + 1) = _
    rw [← hv1, ← hv2, Int.pow_succ _ p]; grind
  (obtain ⟨c1, c2⟩ := V_any (R.drop j) (okW_drop R j hR) p); (obtain ⟨c3, c4⟩ := V_any d hd p); (obtain ⟨c5, c6⟩ := V_any (R.drop j) (okW_drop R j hR) (p + 3))
  have hVd : 0 < vW d := by
    have h5 : 1 * 4294967296 ^ p ≤ (v1 * 4294967296 + v2) * 4294967296 ^ p := Int.mul_le_mul_of_nonneg_right z3 z3
    have := powB p
    rw [eD]; omega
  (obtain ⟨qs, hqs⟩ : ∃ q, q = V (R.drop j) (p + 3) / vW d := ⟨_, rfl⟩); (have k1 : qs * vW d ≤ V (R.drop j) (p + 3) := by rw [hqs]; exact Int.ediv_mul_le _ z3); (have k2 : V (R.drop j) (p + 3) < (qs + 1) * vW d := by rw [hqs]; exact Int.lt_ediv_add_one_mul_self _ hVd); (have k3 : 0 ≤ qs := by rw [hqs]; exact Int.ediv_nonneg c5 z3); (have k4 : qs < 4294967296 := mul_cancel_lt _ _ (vW d) hVd (by rw [Int.mul_comm 4294967296]; omega)); (obtain ⟨n1, n2, n3⟩ := knuth (V (R.drop j) (p + 3)) (vW d) (V (R.drop j) p) (u * 4294967296 + u1) u2 (V d p) v1 v2 (4294967296 ^ p) qs (powB p) c1 c2 c3 c4 eS eD htop b3 b4 a5 a6 hseg k1 k2 k3); (obtain ⟨T, hT⟩ : ∃ T, T = u * 4294967296 + u1 := ⟨_, rfl⟩); rw [← hT] at n1 n2 n3; (have hT0 : 0 ≤ T := by omega); (have hTq : T / v1 * v1 + T % v1 = T := by rw [Int.mul_comm]; exact Int.mul_ediv_add_emod T v1)
  have hqT : qs ≤ T / v1 := by
    apply Int.le_ediv_of_mul_le htop
    have h6 : qs * (v1 * 4294967296 + v2) = qs * v1 * 4294967296 + qs * v2 := by grind
    have h7 : 0 ≤ qs * v2 := Int.mul_nonneg k3 b3
    rw [h6] at n2
    generalize qs * v1 = A at *
    omega
  (obtain ⟨q, r, g1, g2, g3, g4⟩ := guess_val v1 v2 u2 T qs htop b2 b3 b4 a5 a6 n1 k3 k4 n2 4294967296 (T / v1) (T % v1) (by have := Int.emod_nonneg T (show v1 ≠ 0 by omega); omega) hTq (Int.emod_nonneg T z3) (by have := Int.emod_lt_of_pos T htop; omega) hqT (by have := Int.ediv_le_self v1 hT0; omega)); (have hq2 := n3 q g3 g2 g4); (obtain ⟨q', R', s1, s2, s3, s4, s5, s6⟩ := step_val R j d hR hd z3 qs q z3 k3 g3 (by rw [hn]; exact k1) (by rw [hn]; exact k2)); rw [hn] at s1 s5 s6; subst s2; (refine ⟨q', R', ?_, k3, k4, s3, s4, s5, s6, k1, k2⟩); (have e1 : p + 2 - 1 = p + 1 := by omega); (have e2 : p + 2 - 2 = p := by omega); (have e3 : j + (p + 2) - 1 = j + (p + 1) := by omega); (have e4 : j + (p + 2) - 2 = j + p := by omega); (have eT : two u u1 = T := by rw [two_val u u1 a1 a2 a3 a4, hT])
  have eQ : IntKind.u64.wrap (Int.tdiv T (IntKind.u64.wrap v1)) = T / v1 := by
    rw [u64d v1 z3 b2, Int.tdiv_eq_ediv_of_nonneg hT0, u64w _ z3 (by have := Int.ediv_le_self v1 hT0; omega)]
  (refine (g1.bind (g := fun k s => if ((takeTo R j d s.1 (p + 2 + 1)).1 != 0) = true then some (IntKind.u64.wrap (s.1 - 1), (giveTo (takeTo R j d s.1 (p + 2 + 1)).2.2 j d (p + 2 + 1)).2) else some (s.1, (takeTo R j d s.1 (p + 2 + 1)).2.2)) ⟨0, fun k _ => ?_⟩).same fun k => ?_)
  · rw [← s1]; split <;> rfl
  (show longStep k (p + 2) d j R = _); (unfold longStep); rw [e1, e2, e3, e4, ← hu, ← hu1, ← hu2, ← hv1, ← hv2, eT, if_pos hT0, eQ, u64d v1 z3 b2]
theorem V_mono (l : List Int) (h : okW l) (n : Nat) : ∀ m, n ≤ m → V l n ≤ V l m := by
  intro m hm
  induction m with
  | zero => obtain rfl : n = 0 := by omega
            exact Int.le_refl _
  | succ m ih =>
    by_cases e : n = m + 1
    · subst e; exact Int.le_refl _
    · have h1 := ih z3
      obtain ⟨h2, h3⟩ := rd_any l h m
      have h4 : 0 ≤ rd l (m : Int) * 4294967296 ^ m := Int.mul_nonneg h2 (by have := powB m; omega)
      simp only [V]; omega
theorem high_zero (l : List Int) (h : okW l) (p : Nat) (hp : vW l < 4294967296 ^ p) (t : Nat) (ht : p ≤ t) (hl : t < l.length) : rd l (t : Int) = 0 := by
  obtain ⟨h1, h2⟩ := h t hl
  rcases (show rd l (t : Int) = 0 ∨ 1 ≤ rd l (t : Int) by omega) with e | e
  · exact e
  · exfalso
    have h3 := V_mono l h (t + 1) l.length z3
    have h4 := powB_le p t ht
    have h5 : 1 * 4294967296 ^ t ≤ rd l (t : Int) * 4294967296 ^ t := Int.mul_le_mul_of_nonneg_right e (by have := powB t; omega)
    have h6 := (V_any l h t).1
    have h7 : V l l.length = vW l := rfl
    simp only [V] at h3
    omega
theorem V_cut (l : List Int) (h : okW l) (p : Nat) (hp : vW l < 4294967296 ^ p) (hl : p ≤ l.length) : vW l = V l p := V_zero l p (fun t h1 h2 => high_zero l h p hp t h1 h2) l.length hl (Nat.le_refl _)
theorem V_same (a b : List Int) (m : Nat) (h : ∀ t, m ≤ t → rd a (t : Int) = rd b (t : Int)) : ∀ n, m ≤ n → V a n - V a m = V b n - V b m := by
  intro n hn
  induction n with
  | zero => obtain rfl : m = 0 := by omega
            simp
  | succ n ih =>
    by_cases e : m = n + 1
    · subst e; simp
    · have h1 := ih z3
      simp only [V]
      rw [h n z3]; omega
theorem longTo_val (p : Nat) (d : List Int) (hd : okW d) (hn : d.length = p + 2) (htop : 0 < rd d ((p + 1 : Nat) : Int)) (hpos : 0 < vW d) (J : Nat) : ∀ (j : Nat) (R out : List Int), j ≤ J → okW R → R.length = J + (p + 2) → okW out → out.length = J → vW R < vW d * 4294967296 ^ j → (∀ t, t < j → rd out (t : Int) = 0) →
    ∃ R' out', EvS (fun k => longTo k (p + 2) d j R out) (some (R', out')) ∧ okW R' ∧ R'.length = J + (p + 2) ∧ okW out' ∧ out'.length = J ∧ vW R' < vW d ∧ vW R' + vW d * vW out' = vW R + vW d * vW out
  | 0, R, out, hj, hR, hRl, ho, hol, hlt, hz => ⟨R, out, ⟨0, fun k _ => rfl⟩, hR, hRl, ho, hol, by simpa using hlt, rfl⟩
  | j + 1, R, out, hj, hR, hRl, ho, hol, hlt, hz => by
    have hp := powB j
    have hd1 := (V_bound d hd _ (Nat.le_refl _)).2
    rw [hn] at hd1
    have hvd : V d (p + 2) = vW d := by show _ = V d d.length; rw [hn]
    rw [hvd] at hd1
    have hcut : vW R < 4294967296 ^ (j + (p + 3)) := by
      have e : (4294967296 : Int) ^ (j + (p + 3)) = 4294967296 ^ (p + 2) * 4294967296 ^ (j + 1) := by rw [← Int.pow_add]; congr 1; omega
      have h1 : vW d * 4294967296 ^ (j + 1) ≤ 4294967296 ^ (p + 2) * 4294967296 ^ (j + 1) := Int.mul_le_mul_of_nonneg_right z3 (by have := powB (j + 1); omega)
      rw [e]; omega
    have hVR := V_cut R hR (j + (p + 3)) hcut z3
    have hsp := V_split R j (p + 3)
    obtain ⟨l0, l1⟩ := V_any R hR j
    have hseg : V (R.drop j) (p + 3) < vW d * 4294967296 := by
      apply mul_cancel_lt _ _ (4294967296 ^ j) z3
      have e : vW d * 4294967296 * 4294967296 ^ j = vW d * 4294967296 ^ (j + 1) := by rw [Int.pow_succ]; grind
      rw [e]; omega
    obtain ⟨q, R', s1, s2, s3, s4, s5, s6, s7, s8, s9⟩ := longStep_val p d hd hn htop j R hR z3 hseg
    have hsame := V_same R' R (j + (p + 3)) s7 R.length z3
    have hR'v : vW R' = vW R - q * vW d * 4294967296 ^ j := by
      have h1 : vW R' = V R' R.length := by show V R' R'.length = _; rw [s5]
      have h2 : vW R = V R R.length := rfl
      rw [h1]
      omega
    have hR'lt : vW R' < vW d * 4294967296 ^ j := by
      have h3 : V (R.drop j) (p + 3) * 4294967296 ^ j ≤ ((q + 1) * vW d - 1) * 4294967296 ^ j := Int.mul_le_mul_of_nonneg_right z3 z3
      have e : ((q + 1) * vW d - 1) * 4294967296 ^ j = q * vW d * 4294967296 ^ j + vW d * 4294967296 ^ j - 4294967296 ^ j := by grind
      rw [e] at h3
      rw [hR'v, hVR, hsp]
      generalize q * vW d * 4294967296 ^ j = A at *
      generalize vW d * 4294967296 ^ j = B at *
      generalize V (R.drop j) (p + 3) * 4294967296 ^ j = C at *
      omega
    have hoj := hz j z3
    have ho2 : okW (out.set j (q % 4294967296)) := fun t ht => by
      rw [List.length_set] at ht
      exact okT_set out out.length j _ ho (Nat.le_refl _) z3 z3 t ht
    have hov : vW (out.set j (q % 4294967296)) = vW out + q * 4294967296 ^ j := by
      show V (out.set j _) (out.set j _).length = V out out.length + _
      rw [List.length_set, V_set out j _ z3 _ (Nat.le_refl _), if_pos z3, hoj, Int.emod_eq_of_lt s2 s3]; simp
    obtain ⟨R2, out2, t1, t2, t3, t4, t5, t6, t7⟩ := longTo_val p d hd hn htop hpos J j R' (out.set j (q % 4294967296)) z3 s4 z3 ho2 (by rw [List.length_set]; exact hol) hR'lt (fun t ht => by rw [rd_set_ne _ _ _ _ z3]; exact hz t z3)
    refine ⟨R2, out2, ?_, t2, t3, t4, t5, t6, ?_⟩
    · refine (s1.bind (g := fun k s => longTo k (p + 2) d j s.2 (out.set j (s.1 % 4294967296))) t1).same fun k => rfl
    · rw [t7, hov, hR'v]; grind
theorem back_digit (x1 x0 P c : Int) (hP : 1 ≤ P) (hc : 4294967296 = P * c) (h0 : 0 ≤ x0) (h1 : x0 < 4294967296) (h2 : 0 ≤ x1) (h3 : x1 < 4294967296) :
    (x1 * 4294967296 + x0) / P % 4294967296 * P = x1 % P * 4294967296 + x0 - x0 % P := by
  have hc0 : 0 < c := by
    rcases Int.lt_or_le 0 c with h | h
    · exact h
    · have : P * c ≤ P * 0 := Int.mul_le_mul_of_nonneg_left h z3
      omega
  have e1 : x1 * 4294967296 + x0 = x0 + P * (x1 * c) := by rw [hc]; grind
  rw [e1, Int.add_mul_ediv_left _ _ z3]
  have e2 := Int.emod_add_mul_ediv x1 P
  have e3 : x0 / P + x1 * c = (x0 / P + x1 % P * c) + 4294967296 * (x1 / P) := by
    have : x1 * c = (x1 % P + P * (x1 / P)) * c := by rw [e2]
    rw [this, hc]; grind
  rw [e3, Int.add_mul_emod_self_left]
  have m0 := Int.emod_nonneg x1 (show P ≠ 0 by omega)
  have m1 := Int.emod_lt_of_pos x1 (show 0 < P by omega)
  have d0 := Int.ediv_nonneg h0 (show 0 ≤ P by omega)
  have d1 : x0 / P < c := Int.ediv_lt_of_lt_mul z3 (by rw [Int.mul_comm]; omega)
  have m2 : x1 % P * c ≤ (P - 1) * c := Int.mul_le_mul_of_nonneg_right z3 z3
  have m3 : 0 ≤ x1 % P * c := Int.mul_nonneg m0 z3
  have e4 : (P - 1) * c = 4294967296 - c := by rw [hc]; grind
  rw [Int.emod_eq_of_lt z3 z3]
  have e5 := Int.emod_add_mul_ediv x0 P
  have e6 : (x0 / P + x1 % P * c) * P = P * (x0 / P) + x1 % P * (P * c) := by grind
  rw [e6, ← hc]; omega
theorem backTo_val (R : List Int) (hR : okW R) (s : Nat) (hs : s ≤ 31) (n : Nat) : ∀ i, i ≤ n → okW (backTo R (s : Int) n i) ∧ V (backTo R (s : Int) n i) i * 2 ^ s = V R i - rd R ((0 : Nat) : Int) % 2 ^ s + rd R (i : Int) % 2 ^ s * 4294967296 ^ i
  | 0, _ => ⟨fun t ht => by show 0 ≤ rd (List.replicate n 0) (t : Int) ∧ _; rw [backTo, rd_rep]; omega, by show 0 * _ = 0 - _ + _ * 1; omega⟩
  | i + 1, hi => by
    obtain ⟨h1, h2⟩ := backTo_val R hR s hs n i z3
    obtain ⟨p1, p2, c, p3⟩ := pow2_facts s hs
    have hlen := backTo_len R (s : Int) n i
    obtain ⟨x0, x1⟩ := rd_any R hR i
    obtain ⟨y0, y1⟩ := rd_any R hR (i + 1)
    rw [backTo, min64 s hs, two_val _ _ y0 y1 x0 x1]
    refine ⟨fun t ht => ?_, ?_⟩
    · rw [List.length_set] at ht
      exact okT_set _ _ i _ h1 (Nat.le_refl _) z3 z3 t ht
    · rw [V_put _ i _ z3]
      have hb := back_digit (rd R ((i + 1 : Nat) : Int)) (rd R (i : Int)) (2 ^ s) c p1 p3 x0 x1 y0 y1
      simp only [V]
      rw [Int.pow_succ]
      generalize (rd R ((i + 1 : Nat) : Int) * 4294967296 + rd R (i : Int)) / 2 ^ s % 4294967296 = D at *
      generalize rd R ((i + 1 : Nat) : Int) % 2 ^ s = m1 at *
      generalize rd R (i : Int) % 2 ^ s = m0 at *
      generalize rd R ((0 : Nat) : Int) % 2 ^ s = m2 at *
      generalize (2 : Int) ^ s = P at *
      generalize (4294967296 : Int) ^ i = W at *
      generalize V (backTo R (s : Int) n i) i = Vb at *
      generalize V R i = VR at *
      clear p1 p2 p3 h1 hlen x0 x1 y0 y1
      grind
theorem ediv_of (a b q r : Int) (hb : 0 < b) (h : a = r + b * q) (h0 : 0 ≤ r) (h1 : r < b) : a / b = q ∧ a % b = r := by
  subst h
  rw [Int.add_mul_ediv_left _ _ z3, Int.ediv_eq_zero_of_lt h0 h1, Int.add_mul_emod_self_left, Int.emod_eq_of_lt h0 h1]
  omega
def DivV (f : Nat → Option (List Int × List Int)) (a b : Int) : Prop := ∃ q r, EvS f (some (q, r)) ∧ nW q ∧ nW r ∧ vW q = a / b ∧ vW r = a % b
theorem long_val (a b : List Int) (ha : nW a) (hb : nW b) (hb2 : 2 ≤ b.length) (hba : b.length ≤ a.length) (hl : a.length ≤ 1000) : DivV (fun k => long k a b) (vW a) (vW b) := by
  (obtain ⟨p, hp⟩ : ∃ p, b.length = p + 2 := ⟨b.length - 2, by omega⟩); (obtain ⟨v, hv⟩ : ∃ v, v = rd b ((p + 1 : Nat) : Int) := ⟨_, rfl⟩); (have hv0 : 0 < v := by have := hb.2 z3; rw [hp] at this; rw [hv]; exact this); (have hv1 : v < 4294967296 := by rw [hv]; exact (rd_any b hb.1 _).2); (obtain ⟨s, s1, s2, s3⟩ := shift_ex v hv0 hv1); (obtain ⟨p1, p2, c, p3⟩ := pow2_facts s s1); (obtain ⟨R, R1, R2, R3, R4⟩ := shift_val a ha.1 z3 s s1); (obtain ⟨D, D1, D2, D3, D4⟩ := shift_val b hb.1 z3 s s1)
  have hblow : 4294967296 ^ (p + 1) ≤ vW b := by
    have h := V_low b hb z3
    rw [hp] at h
    exact h
  have hbup : vW b < (v + 1) * 4294967296 ^ (p + 1) := by
    show V b b.length < _
    rw [hp]
    show V b (p + 1) + rd b ((p + 1 : Nat) : Int) * 4294967296 ^ (p + 1) < _
    have h := (V_any b hb.1 (p + 1)).2
    have e : (v + 1) * 4294967296 ^ (p + 1) = 4294967296 ^ (p + 1) + v * 4294967296 ^ (p + 1) := by grind
    rw [← hv, e]; omega
  (have hpp := powB (p + 1))
  have hDlt : vW D < 4294967296 ^ (p + 2) := by
    rw [D4]
    have h1 : (vW b + 1) * 2 ^ s ≤ (v + 1) * 4294967296 ^ (p + 1) * 2 ^ s := Int.mul_le_mul_of_nonneg_right z3 z3
    have h2 : (v + 1) * 2 ^ s * 4294967296 ^ (p + 1) ≤ 4294967296 * 4294967296 ^ (p + 1) := Int.mul_le_mul_of_nonneg_right s3 z3
    have e1 : (vW b + 1) * 2 ^ s = vW b * 2 ^ s + 2 ^ s := by grind
    have e2 : (v + 1) * 4294967296 ^ (p + 1) * 2 ^ s = (v + 1) * 2 ^ s * 4294967296 ^ (p + 1) := by grind
    have e3 : (4294967296 : Int) ^ (p + 2) = 4294967296 * 4294967296 ^ (p + 1) := by rw [Int.pow_succ _ (p + 1)]; grind
    rw [e3]
    omega
  (have hVD := V_cut D D2 (p + 2) hDlt z3); (obtain ⟨d, hd⟩ : ∃ d, d = D.take (p + 2) := ⟨_, rfl⟩); (have hdl : d.length = p + 2 := by rw [hd, List.length_take]; omega); (have hdo : okW d := by rw [hd]; exact okW_take D _ D2)
  have hdv : vW d = vW b * 2 ^ s := by
    show V d d.length = _
    rw [hdl, hd, V_take D _ _ (Nat.le_refl _), ← hVD, D4]
  (have hb0 : 0 < vW b := by omega); (have hbP : vW b * 1 ≤ vW b * 2 ^ s := Int.mul_le_mul_of_nonneg_left p1 z3)
  have htop : 0 < rd D ((p + 1 : Nat) : Int) := by
    obtain ⟨t1, t2⟩ := rd_any D D2 (p + 1)
    rcases (show rd D ((p + 1 : Nat) : Int) = 0 ∨ 0 < rd D ((p + 1 : Nat) : Int) by omega) with e | e
    · exfalso
      have h1 : V D (p + 2) = V D (p + 1) + rd D ((p + 1 : Nat) : Int) * 4294967296 ^ (p + 1) := rfl
      have h2 := (V_any D D2 (p + 1)).2
      rw [e] at h1
      rw [← hVD, D4] at h1
      omega
    · exact e
  (have htopd : 0 < rd d ((p + 1 : Nat) : Int) := by rw [hd, rd_take _ _ _ z3]; exact htop); (obtain ⟨J, hJ⟩ : ∃ J, J = a.length - (p + 2) + 1 := ⟨_, rfl⟩)
  have hRlt : vW R < vW d * 4294967296 ^ J := by
    rw [R4, hdv]
    have h1 := (V_any a ha.1 a.length).2
    have h2 : vW a = V a a.length := rfl
    have e : (4294967296 : Int) ^ a.length = 4294967296 ^ (p + 1) * 4294967296 ^ J := by rw [← Int.pow_add]; congr 1; omega
    have h3 : 4294967296 ^ (p + 1) * 4294967296 ^ J ≤ vW b * 4294967296 ^ J := Int.mul_le_mul_of_nonneg_right hblow (by have := powB J; omega)
    have h4 : (vW a + 1) * 2 ^ s ≤ vW b * 4294967296 ^ J * 2 ^ s := Int.mul_le_mul_of_nonneg_right z3 z3
    have e4 : (vW a + 1) * 2 ^ s = vW a * 2 ^ s + 2 ^ s := by grind
    have e5 : vW b * 4294967296 ^ J * 2 ^ s = vW b * 2 ^ s * 4294967296 ^ J := by grind
    omega
  (obtain ⟨R', O, l1, l2, l3, l4, l5, l6, l7⟩ := longTo_val p d hdo hdl htopd z3 J J R (List.replicate J 0) (Nat.le_refl _) R2 z3 (fun t ht => by rw [rd_rep]; omega) List.length_replicate hRlt (fun t ht => rd_rep J t)); (have hz : vW (List.replicate J 0) = 0 := V_rep J _); rw [hz, hdv, R4] at l7; rw [hdv] at l6; (have hR'0 : 0 ≤ vW R' := (V_any R' l2 _).1); (obtain ⟨r, hr⟩ : ∃ r, r = vW a - vW b * vW O := ⟨_, rfl⟩)
  have hPr : vW R' = r * 2 ^ s := by
    have e : r * 2 ^ s = vW a * 2 ^ s - vW b * 2 ^ s * vW O := by rw [hr]; grind
    rw [e]; omega
  have hr0 : 0 ≤ r := by
    rcases Int.lt_or_le r 0 with h | h
    · exfalso
      have : r * 2 ^ s ≤ (-1) * 2 ^ s := Int.mul_le_mul_of_nonneg_right z3 z3
      omega
    · exact h
  (have hr1 : r < vW b := mul_cancel_lt _ _ (2 ^ s) z3 z3); (obtain ⟨q1, q2⟩ := ediv_of (vW a) (vW b) (vW O) r hb0 z3 hr0 hr1); (have hR'lt : vW R' < 4294967296 ^ (p + 2) := by rw [← D4] at l6; omega); (obtain ⟨b1, b2⟩ := backTo_val R' l2 s s1 (p + 2) (p + 2) (Nat.le_refl _)); (have hzero := high_zero R' l2 (p + 2) hR'lt (p + 2) (Nat.le_refl _) z3); rw [hzero, ← V_cut R' l2 (p + 2) hR'lt z3, hPr] at b2; (have hbl := backTo_len R' (s : Int) (p + 2) (p + 2))
  have hbv : vW (backTo R' (s : Int) (p + 2) (p + 2)) = r := by
    show V _ _ = _
    rw [hbl]
    have m0 := Int.emod_nonneg (rd R' ((0 : Nat) : Int)) (show (2 : Int) ^ s ≠ 0 by omega)
    have m1 := Int.emod_lt_of_pos (rd R' ((0 : Nat) : Int)) (show (0 : Int) < 2 ^ s by omega)
    generalize V (backTo R' (s : Int) (p + 2) (p + 2)) (p + 2) = Vb at *
    have e0 : (0 : Int) % 2 ^ s * 4294967296 ^ (p + 2) = 0 := by simp
    rw [e0] at b2
    have e1 : (r - Vb) * 2 ^ s = r * 2 ^ s - Vb * 2 ^ s := by grind
    have h1 : r - Vb < 1 := mul_cancel_lt _ _ (2 ^ s) z3 z3
    have h2 : -1 < r - Vb := mul_cancel_lt _ _ (2 ^ s) z3 z3
    omega
  (obtain ⟨Q, t1, t2, t3, t4⟩ := trim_val O z3 l4); (obtain ⟨U, u1, u2, u3, u4⟩ := trim_val (backTo R' (s : Int) (p + 2) (p + 2)) z3 b1); (refine ⟨Q, U, ?_, t2, u2, by rw [t3, q1], by rw [u3, hbv, q2]⟩); (have eb : b.length - 1 = p + 1 := by omega)
  have hcond : 2 ≤ b.length ∧ b.length ≤ a.length ∧ a.length ≤ 1000 ∧ 0 < rd b ((b.length - 1 : Nat) : Int) ∧ rd b ((b.length - 1 : Nat) : Int) < 4294967296 := by
    rw [eb, ← hv]; exact ⟨hb2, hba, hl, hv0, hv1⟩
  have hcond2 : 0 < IntKind.u64.wrap (rd D ((b.length - 1 : Nat) : Int)) ∧ R.length = a.length + 1 ∧ D.length = b.length + 1 := by
    rw [eb, u64d _ z3 (rd_any D D2 _).2]; exact ⟨htop, R3, D3⟩
  (have eD : D.take b.length = d := by rw [hp, hd]); (have eJ : a.length - b.length + 1 = J := by rw [hp, hJ])
  refine (R1.bind (g := fun k R => (big_shift.f k b (s : Int)).bind fun D => if 0 < IntKind.u64.wrap (rd D ((b.length - 1 : Nat) : Int)) ∧ R.length = a.length + 1 ∧ D.length = b.length + 1 then
        (longTo k b.length (D.take b.length) (a.length - b.length + 1) R (List.replicate (a.length - b.length + 1) 0)).bind fun s' =>
          (big_trim.f k s'.2).bind fun q => (big_trim.f k (backTo s'.1 (s : Int) b.length b.length)).bind fun r => some (q, r)
      else none) (D1.bind (g := fun k D => if 0 < IntKind.u64.wrap (rd D ((b.length - 1 : Nat) : Int)) ∧ R.length = a.length + 1 ∧ D.length = b.length + 1 then
        (longTo k b.length (D.take b.length) (a.length - b.length + 1) R (List.replicate (a.length - b.length + 1) 0)).bind fun s' =>
          (big_trim.f k s'.2).bind fun q => (big_trim.f k (backTo s'.1 (s : Int) b.length b.length)).bind fun r => some (q, r)
      else none) ?_)).same fun k => ?_
  rotate_left
  · (show long k a b = _); (unfold long); rw [if_pos hcond, eb, ← hv, s2]
  (refine (l1.bind (g := fun k s' => (big_trim.f k s'.2).bind fun q => (big_trim.f k (backTo s'.1 (s : Int) (p + 2) (p + 2))).bind fun r => some (q, r)) (t1.bind (g := fun k q => (big_trim.f k (backTo R' (s : Int) (p + 2) (p + 2))).bind fun r => some (q, r)) (u1.bind (g := fun k r => some (Q, r)) ⟨0, fun _ _ => rfl⟩))).same fun k => ?_); (show (if _ then _ else _) = _); rw [if_pos hcond2, eD, eJ, hp]
theorem div1To_val (a : List Int) (ha : okW a) (b0 : Int) (h0 : 0 < b0) (h1 : b0 < 4294967296) : ∀ (j : Nat) (rest : Int) (out : List Int), 0 ≤ rest → rest < b0 → okW out → j ≤ out.length → (∀ t, t < j → rd out (t : Int) = 0) →
    ∃ r o, div1To a b0 j rest out = some (r, o) ∧ 0 ≤ r ∧ r < b0 ∧ okW o ∧ o.length = out.length ∧ vW o * b0 + r = V a j + rest * 4294967296 ^ j + vW out * b0
  | 0, rest, out, hr0, hr1, ho, hj, hz => ⟨rest, out, rfl, hr0, hr1, ho, rfl, by show _ = 0 + rest * 1 + _; omega⟩
  | j + 1, rest, out, hr0, hr1, ho, hj, hz => by
    obtain ⟨x, hx⟩ : ∃ x, x = rd a (j : Int) := ⟨_, rfl⟩
    obtain ⟨x0, x1⟩ := rd_any a ha j
    rw [← hx] at x0 x1
    obtain ⟨T, hT⟩ : ∃ T, T = rest * 4294967296 + x := ⟨_, rfl⟩
    have hT0 : 0 ≤ T := by omega
    have hTe := Int.emod_add_mul_ediv T b0
    have hq0 : 0 ≤ T / b0 := Int.ediv_nonneg hT0 z3
    have hq1 : T / b0 < 4294967296 := Int.ediv_lt_of_lt_mul h0 z3
    have m0 := Int.emod_nonneg T (show b0 ≠ 0 by omega)
    have m1 := Int.emod_lt_of_pos T h0
    have ho2 : okW (out.set j (T / b0 % 4294967296)) := fun t ht => by
      rw [List.length_set] at ht
      exact okT_set out out.length j _ ho (Nat.le_refl _) z3 z3 t ht
    have hov : vW (out.set j (T / b0 % 4294967296)) = vW out + T / b0 * 4294967296 ^ j := by
      show V (out.set j _) (out.set j _).length = V out out.length + _
      rw [List.length_set, V_set out j _ z3 _ (Nat.le_refl _), if_pos z3, hz j z3, Int.emod_eq_of_lt hq0 hq1]; simp
    obtain ⟨r, o, e1, e2, e3, e4, e5, e6⟩ := div1To_val a ha b0 h0 h1 j (T % b0) (out.set j (T / b0 % 4294967296)) m0 m1 ho2 (by rw [List.length_set]; omega) (fun t ht => by rw [rd_set_ne _ _ _ _ z3]; exact hz t z3)
    refine ⟨r, o, ?_, e2, e3, e4, by rw [e5, List.length_set], ?_⟩
    · rw [div1To, ← hx, u64w (rest * 4294967296) z3 z3, u64d x x0 x1, u64_or32 rest x hr0 z3 x0 x1, ← hT, if_pos hT0, u64d b0 z3 h1, Int.tdiv_eq_ediv_of_nonneg hT0, u64d _ hq0 hq1]
      exact e1
    · rw [e6, hov]
      simp only [V]
      rw [← hx, Int.pow_succ]
      generalize T % b0 = m at *
      generalize T / b0 = d at *
      generalize (4294967296 : Int) ^ j = W at *
      clear e6 hov ho2 e1 hz
      grind
theorem w1 (b : List Int) (h : b.length = 1) : vW b = rd b ((0 : Nat) : Int) := by
  show V b b.length = _
  rw [h]; show 0 + rd b ((0 : Nat) : Int) * 1 = _; omega
theorem div1_val (a b : List Int) (ha : nW a) (hb : nW b) (hb1 : b.length = 1) (ha0 : 0 < a.length) (hl : a.length ≤ 1000) : DivV (fun k => div1 k a b) (vW a) (vW b) := by
  have e := w1 b hb1
  obtain ⟨b0, b1⟩ := rd_any b hb.1 0
  have hb0 : 0 < rd b ((0 : Nat) : Int) := by have := hb.2 z3; rw [hb1] at this; exact this
  obtain ⟨r, o, e1, e2, e3, e4, e5, e6⟩ := div1To_val a ha.1 (rd b ((0 : Nat) : Int)) hb0 b1 a.length 0 (List.replicate a.length 0) (Int.le_refl _) hb0 (fun t ht => by rw [rd_rep]; omega) (by rw [List.length_replicate]; exact Nat.le_refl _) (fun t ht => rd_rep _ t)
  have hz : vW (List.replicate a.length 0) = 0 := V_rep _ _
  rw [List.length_replicate] at e5
  rw [hz] at e6
  obtain ⟨q1, q2⟩ := ediv_of (vW a) (vW b) (vW o) r z3 (by rw [e, Int.mul_comm]; have h : vW a = V a a.length := rfl; omega) e2 z3
  obtain ⟨Q, t1, t2, t3, t4⟩ := trim_val o z3 e4
  obtain ⟨U, u1, u2, u3, u4⟩ := of_val r e2 z3
  refine ⟨Q, U, ?_, t2, u2, by rw [t3, q1], by rw [u3, q2]⟩
  refine (t1.bind (g := fun k q => (big_of.f k r).bind fun r' => some (q, r')) (u1.bind (g := fun k r' => some (Q, r')) ⟨0, fun _ _ => rfl⟩)).same fun k => ?_
  show div1 k a b = _
  unfold div1
  rw [if_pos ⟨hb1, hl, ha0, by rw [u64d _ b0 b1]; exact hb0⟩, e1]; rfl
theorem nW_nil : nW [] := ⟨fun i hi => absurd hi (by simp), fun h => absurd h (by simp)⟩
theorem sgn_lt (a b : Int) : sgnC a b < 0 ↔ a < b := by
  unfold sgnC
  split
  · exact ⟨fun _ => by assumption, fun _ => by decide⟩
  · split
    · exact ⟨fun h => absurd h z9, fun h => by omega⟩
    · exact ⟨fun h => absurd h z9, fun h => by omega⟩
theorem divS_val (a b : List Int) (ha : nW a) (hb : nW b) (hb0 : 0 < vW b) (hs : vW a < vW b ∨ vW a < 18446744073709551616) (hl : a.length ≤ 1000) (hl2 : b.length ≤ 1000) : DivV (fun k => divS k a b) (vW a) (vW b) := by
  (have hc := cmp_val a b ha hb z3 z3); (have ha0 := vW_nonneg a ha.1); by_cases h : vW a < vW b
  · (refine ⟨[], a, ?_, nW_nil, ha, (Int.ediv_eq_zero_of_lt ha0 h).symm, (Int.emod_eq_of_lt ha0 h).symm⟩); (refine (hc.bind (g := fun k c => if c < 0 then some ([], a) else (big_words_small.f a).bind fun x => if x.2 = true then (big_words_small.f b).bind fun y => if 0 ≤ x.1 ∧ x.1 < 18446744073709551616 ∧ 0 < y.1 ∧ y.1 < 18446744073709551616 then (big_of.f k (x.1 / y.1)).bind fun q => (big_of.f k (x.1 % y.1)).bind fun r => some (q, r) else none else none) ⟨0, fun k _ => ?_⟩).same fun k => rfl); (show (if _ then _ else _) = _); rw [if_pos ((sgn_lt _ _).mpr h)]
  (have hx : vW a < 18446744073709551616 := by omega); (have ea := small_val a ha); (have eb := small_val b hb); rw [if_pos ((small_iff a ha).mpr hx)] at ea; rw [if_pos ((small_iff b hb).mpr z3)] at eb; (have d0 := Int.ediv_nonneg ha0 (show 0 ≤ vW b by omega)); (have d1 := Int.ediv_le_self (vW b) ha0); (have m0 := Int.emod_nonneg (vW a) (show vW b ≠ 0 by omega)); (have m1 := Int.emod_lt_of_pos (vW a) hb0); (obtain ⟨Q, t1, t2, t3, t4⟩ := of_val (vW a / vW b) d0 z3); (obtain ⟨U, u1, u2, u3, u4⟩ := of_val (vW a % vW b) m0 z3); (refine ⟨Q, U, ?_, t2, u2, t3, u3⟩); (refine (hc.bind (g := fun k c => if c < 0 then some ([], a) else (big_words_small.f a).bind fun x => if x.2 = true then (big_words_small.f b).bind fun y => if 0 ≤ x.1 ∧ x.1 < 18446744073709551616 ∧ 0 < y.1 ∧ y.1 < 18446744073709551616 then (big_of.f k (x.1 / y.1)).bind fun q => (big_of.f k (x.1 % y.1)).bind fun r => some (q, r) else none else none) ?_).same fun k => rfl); (refine (t1.bind (g := fun k q => (big_of.f k (vW a % vW b)).bind fun r => some (q, r)) (u1.bind (g := fun k r => some (Q, r)) ⟨0, fun _ _ => rfl⟩)).same fun k => ?_); (show (if _ then _ else _) = _); rw [if_neg (by rw [sgn_lt]; exact h), ea, eb]; simp only [Option.bind_some, if_true]; (rw [if_pos ⟨ha0, hx, hb0, by omega⟩])
theorem divG_val (a b : List Int) (ha : nW a) (hb : nW b) (hb0 : 0 < vW b) (hl : a.length ≤ 1000) (hl2 : b.length ≤ 1000) : DivV (fun k => divG k a b) (vW a) (vW b) := by
  (have hc := cmp_val a b ha hb z3 z3)
  have hblen : 0 < b.length := by
    rcases Nat.eq_zero_or_pos b.length with h | h
    · exfalso
      have : vW b = 0 := by show V b b.length = 0; rw [h]; rfl
      omega
    · exact h
  by_cases h : vW a < vW b
  · (obtain ⟨q, r, h1, h2⟩ := divS_val a b ha hb hb0 (.inl h) hl hl2); (refine ⟨q, r, ?_, h2⟩); (refine (hc.bind (g := fun k c => if c < 0 then divS k a b else (big_words_small.f a).bind fun x => if x.2 = true then divS k a b else if b.length = 1 then div1 k a b else long k a b) (h1.same fun k => ?_)).same fun k => rfl); (show (if _ then _ else _) = _); rw [if_pos ((sgn_lt _ _).mpr h)]
  by_cases hx : a.length ≤ 2
  · (obtain ⟨q, r, h1, h2⟩ := divS_val a b ha hb hb0 (.inr ((small_iff a ha).mp hx)) hl hl2); (refine ⟨q, r, ?_, h2⟩); (refine (hc.bind (g := fun k c => if c < 0 then divS k a b else (big_words_small.f a).bind fun x => if x.2 = true then divS k a b else if b.length = 1 then div1 k a b else long k a b) (h1.same fun k => ?_)).same fun k => rfl); (show (if _ then _ else _) = _); rw [if_neg (by rw [sgn_lt]; exact h), small_val a ha, if_pos hx]; rfl
  by_cases h1b : b.length = 1
  · (obtain ⟨q, r, h1, h2⟩ := div1_val a b ha hb h1b z3 hl); (refine ⟨q, r, ?_, h2⟩); (refine (hc.bind (g := fun k c => if c < 0 then divS k a b else (big_words_small.f a).bind fun x => if x.2 = true then divS k a b else if b.length = 1 then div1 k a b else long k a b) (h1.same fun k => ?_)).same fun k => rfl); (show (if _ then _ else _) = _); rw [if_neg (by rw [sgn_lt]; exact h), small_val a ha, if_neg hx, if_pos h1b]; rfl
  have hle : b.length ≤ a.length := by
    rcases Nat.lt_or_ge a.length b.length with h2 | h2
    · exact absurd (len_lt a b ha.1 hb h2) h
    · exact h2
  (obtain ⟨q, r, h1, h2⟩ := long_val a b ha hb z3 hle hl); (refine ⟨q, r, ?_, h2⟩); (refine (hc.bind (g := fun k c => if c < 0 then divS k a b else (big_words_small.f a).bind fun x => if x.2 = true then divS k a b else if b.length = 1 then div1 k a b else long k a b) (h1.same fun k => ?_)).same fun k => rfl); (show (if _ then _ else _) = _); rw [if_neg (by rw [sgn_lt]; exact h), small_val a ha, if_neg hx, if_neg h1b]; rfl
theorem len_of (r : List Int) (h : nW r) (n : Nat) (hv : vW r < 4294967296 ^ n) : r.length ≤ n := by
  rcases Nat.lt_or_ge n r.length with h1 | h1
  · exfalso
    have h2 := V_low r h z3
    have h3 := powB_le n (r.length - 1) z3
    omega
  · exact h1
theorem len_le (a b : List Int) (ha : nW a) (hb : okW b) (h : vW a ≤ vW b) : a.length ≤ b.length := by
  have := (V_any b hb b.length).2
  exact len_of a ha _ (by have h2 : vW b = V b b.length := rfl; omega)
theorem nil_iff (l : List Int) (h : nW l) : l.length = 0 ↔ vW l = 0 := by
  constructor
  · intro e; show V l l.length = 0; rw [e]; rfl
  · intro e
    rcases Nat.eq_zero_or_pos l.length with h1 | h1
    · exact h1
    · have := V_low l h h1
      have := powB (l.length - 1)
      omega
theorem gcd_pos (x y : Int) (h : 0 < y) : 0 < (Int.gcd x y : Int) := by
  have : 0 < Int.gcd x y := Int.gcd_pos_of_ne_zero_right x z3
  omega
theorem gcd_le (x y : Int) (h : 0 < y) : (Int.gcd x y : Int) ≤ y := Int.le_of_dvd h (Int.gcd_dvd_right x y)
theorem common_val : ∀ (m : Nat) (a b : List Int), nW a → nW b → a.length ≤ 1000 → b.length ≤ 1000 → vW b < m →
    ∃ r K, (∀ k n, K ≤ k → K ≤ n → commonF (divG k) k n a b = some r) ∧ nW r ∧ vW r = Int.gcd (vW a) (vW b)
  | 0, a, b, ha, hb, hl, hl2, hm => by have := vW_nonneg b hb.1; omega
  | m + 1, a, b, ha, hb, hl, hl2, hm => by
    have ha0 := vW_nonneg a ha.1
    have hb0 := vW_nonneg b hb.1
    by_cases h0 : b.length = 0
    · have e := (nil_iff b hb).mp h0
      refine ⟨a, 1, fun k n _ hn => ?_, ha, ?_⟩
      · obtain ⟨n, rfl⟩ : ∃ n', n = n' + 1 := ⟨n - 1, by omega⟩
        rw [commonF, if_pos h0]
      · rw [e, Int.gcd_zero_right]; omega
    · have hbp : 0 < vW b := by
        have := mt (nil_iff b hb).mpr h0
        omega
      by_cases hs : a.length ≤ 2 ∧ b.length ≤ 2
      · have ea := small_val a ha
        have eb := small_val b hb
        rw [if_pos hs.1] at ea
        rw [if_pos hs.2] at eb
        have h1 := (small_iff a ha).mp hs.1
        have h2 := (small_iff b hb).mp hs.2
        obtain ⟨r, ⟨K, r1⟩, r2, r3, r4⟩ := of_val (Int.gcd (vW a) (vW b)) z3 (by have := gcd_le (vW a) (vW b) hbp; omega)
        refine ⟨r, K + 1, fun k n hk hn => ?_, r2, r3⟩
        obtain ⟨n, rfl⟩ : ∃ n', n = n' + 1 := ⟨n - 1, by omega⟩
        have eg : gcdL (vW a) (vW b) = some (Int.gcd (vW a) (vW b) : Int) := by unfold gcdL; rw [if_pos ⟨ha0, h1, hb0, h2⟩]
        rw [commonF, if_neg h0, ea, eb]
        simp only [Option.bind_some, if_true]
        rw [eg]
        exact r1 k z3
      · obtain ⟨q, u, ⟨K1, d1⟩, d2, d3, d4, d5⟩ := divG_val a b ha hb hbp hl hl2
        have hu1 := Int.emod_lt_of_pos (vW a) hbp
        have hul := len_le u b d3 hb.1 z3
        obtain ⟨r, K, r1, r2, r3⟩ := common_val m b u hb d3 hl2 z3 z3
        refine ⟨r, K + K1 + 1, fun k n hk hn => ?_, r2, by rw [r3, d5, gcd_step _ _ ha0 hb0]⟩
        obtain ⟨n, rfl⟩ : ∃ n', n = n' + 1 := ⟨n - 1, by omega⟩
        have hd : divG k a b = some (q, u) := d1 k z3
        have hr := r1 k n z3 z3
        rw [commonF, if_neg h0, small_val a ha]
        by_cases ha2 : a.length ≤ 2
        · rw [if_pos ha2]
          simp only [Option.bind_some, if_true]
          rw [small_val b hb, if_neg (fun h => hs ⟨ha2, h⟩)]
          simp only [Option.bind_some, Bool.false_eq_true, if_false]
          rw [hd]; exact hr
        · rw [if_neg ha2]
          simp only [Option.bind_some, Bool.false_eq_true, if_false]
          rw [hd]; exact hr
theorem nW_one : nW [1] ∧ vW [1] = 1 := ⟨⟨fun i hi => by
    have : i = 0 := by simp at hi; omega
    subst this; exact ⟨by decide, by decide⟩, fun _ => by decide⟩, by decide⟩
def IsQ (r : List Int × List Int) (N D : Int) : Prop :=
  nW r.1 ∧ nW (den1 r.2) ∧ vW r.1 = N / (Int.gcd N D : Int) ∧ vW (den1 r.2) = D / (Int.gcd N D : Int)
theorem den1_some (d : List Int) (h : 0 < vW d) : den1 d = d := by
  unfold den1
  split
  · rename_i e
    exfalso
    have : vW d = 0 := by show V d d.length = 0; rw [e]; rfl
    omega
  · rfl
theorem sgn_gt (a b : Int) : sgnC a b > 0 ↔ b < a := by
  unfold sgnC
  split
  · exact ⟨fun h => absurd h z9, fun h => by omega⟩
  · split
    · exact ⟨fun _ => by assumption, fun _ => by decide⟩
    · exact ⟨fun h => absurd h z9, fun h => by omega⟩
theorem ratSet_val (num den : List Int) (hn : nW num) (hd : nW den) (hpos : 0 < vW den) (hl : num.length ≤ 1000) (hl2 : den.length ≤ 1000) :
    ∃ r, EvS (fun k => ratSet (divG k) k k num den) (some r) ∧ IsQ r (vW num) (vW den) ∧ 0 < vW r.2 ∧ r.1.length ≤ num.length ∧ r.2.length ≤ den.length := by
  (have hn0 := vW_nonneg num hn.1); (obtain ⟨g, K, g1, g2, g3⟩ := common_val ((vW den).toNat + 1) num den hn hd hl hl2 z3); (have gp := gcd_pos (vW num) (vW den) hpos); (have gl := gcd_le (vW num) (vW den) hpos); (have hglen := len_le g den g2 hd.1 z3); (have G : EvS (fun k => commonF (divG k) k k num den) (some g) := ⟨K, fun k hk => g1 k k hk hk⟩); (have C := cmp_val g [1] g2 nW_one.1 z3 (by simp)); rw [nW_one.2, g3] at C; (have ddv : vW den / (Int.gcd (vW num) (vW den) : Int) * (Int.gcd (vW num) (vW den) : Int) = vW den := Int.ediv_mul_cancel (Int.gcd_dvd_right _ _))
  have dpos : 0 < vW den / (Int.gcd (vW num) (vW den) : Int) := by
    rcases Int.lt_or_le 0 (vW den / (Int.gcd (vW num) (vW den) : Int)) with h | h
    · exact h
    · exfalso
      have : vW den / (Int.gcd (vW num) (vW den) : Int) * (Int.gcd (vW num) (vW den) : Int) ≤ 0 * (Int.gcd (vW num) (vW den) : Int) := Int.mul_le_mul_of_nonneg_right h z3
      omega
  by_cases h1 : 1 < (Int.gcd (vW num) (vW den) : Int); rotate_left
  · (have e1 : (Int.gcd (vW num) (vW den) : Int) = 1 := by omega); (refine ⟨(num, den), ?_, ⟨hn, by show nW (den1 den); rw [den1_some den hpos]; exact hd, by rw [e1, Int.ediv_one], by show vW (den1 den) = _; rw [den1_some den hpos, e1, Int.ediv_one]⟩, hpos, Nat.le_refl _, Nat.le_refl _⟩); (refine (G.bind (g := fun k g => (big_compare.f k g [1]).bind fun c => if c > 0 then (divG k num g).bind fun q1 => (divG k den g).bind fun q2 => some (q1.1, q2.1) else some (num, den)) (C.bind (g := fun k c => if c > 0 then (divG k num g).bind fun q1 => (divG k den g).bind fun q2 => some (q1.1, q2.1) else some (num, den)) ⟨0, fun k _ => ?_⟩)).same fun k => rfl); (show (if _ then _ else _) = _); rw [if_neg (by rw [gt_iff_lt, ← gt_iff_lt, sgn_gt]; exact h1)]
  (obtain ⟨q1, r1, a1, a2, a3, a4, a5⟩ := divG_val num g hn g2 z3 hl z3); (obtain ⟨q2, r2, b1, b2, b3, b4, b5⟩ := divG_val den g hd g2 z3 hl2 z3); rw [g3] at a4 b4; (refine ⟨(q1, q2), ?_, ⟨a2, by show nW (den1 q2); rw [den1_some q2 z3]; exact b2, a4, by show vW (den1 q2) = _; rw [den1_some q2 z3]; exact b4⟩, by show 0 < vW q2; omega, ?_, ?_⟩)
  · (refine (G.bind (g := fun k g => (big_compare.f k g [1]).bind fun c => if c > 0 then (divG k num g).bind fun q1 => (divG k den g).bind fun q2 => some (q1.1, q2.1) else some (num, den)) (C.bind (g := fun k c => if c > 0 then (divG k num g).bind fun q1 => (divG k den g).bind fun q2 => some (q1.1, q2.1) else some (num, den)) ?_)).same fun k => rfl); (refine (a1.bind (g := fun k q1 => (divG k den g).bind fun q2 => some (q1.1, q2.1)) (b1.bind (g := fun k q2 => some (q1, q2.1)) ⟨0, fun _ _ => rfl⟩)).same fun k => ?_); (show (if _ then _ else _) = _); rw [if_pos ((sgn_gt _ _).mpr h1)]
  · (exact len_le q1 num a2 hn.1 (by have := Int.ediv_le_self (Int.gcd (vW num) (vW den) : Int) hn0; omega))
  (exact len_le q2 den b2 hd.1 (by have := Int.ediv_le_self (Int.gcd (vW num) (vW den) : Int) (show 0 ≤ vW den by omega); omega))
theorem low_eq (N D N' D' : Int) (hN : 0 ≤ N) (hD : 0 < D) (hN' : 0 ≤ N') (hD' : 0 < D') (h : N * D' = N' * D) : N / (Int.gcd N D : Int) = N' / (Int.gcd N' D' : Int) ∧ D / (Int.gcd N D : Int) = D' / (Int.gcd N' D' : Int) := by
  obtain ⟨a, rfl⟩ := Int.eq_ofNat_of_zero_le hN
  obtain ⟨b, rfl⟩ := Int.eq_ofNat_of_zero_le (Int.le_of_lt hD)
  obtain ⟨c, rfl⟩ := Int.eq_ofNat_of_zero_le hN'
  obtain ⟨d, rfl⟩ := Int.eq_ofNat_of_zero_le (Int.le_of_lt hD')
  rw [Int.gcd_natCast_natCast, Int.gcd_natCast_natCast]
  have h' : a * d = c * b := by exact_mod_cast h
  have hb : 0 < b := by omega
  have hd : 0 < d := by omega
  have g1 : Nat.gcd (a * d) (b * d) = Nat.gcd a b * d := Nat.gcd_mul_right a d b
  have g2 : Nat.gcd (c * b) (d * b) = Nat.gcd c d * b := Nat.gcd_mul_right c b d
  have e3 : Nat.gcd a b * d = Nat.gcd c d * b := by rw [← g1, ← g2, h', Nat.mul_comm b d]
  have p1 : 0 < Nat.gcd a b := Nat.gcd_pos_of_pos_right a hb
  have p2 : 0 < Nat.gcd c d := Nat.gcd_pos_of_pos_right c hd
  constructor
  · have : a / Nat.gcd a b = c / Nat.gcd c d := by
      rw [← Nat.mul_div_mul_right a (Nat.gcd a b) hd, h', e3, Nat.mul_div_mul_right _ _ hb]
    exact_mod_cast this
  · have : b / Nat.gcd a b = d / Nat.gcd c d := by
      rw [← Nat.mul_div_mul_right b (Nat.gcd a b) hd, e3, Nat.mul_comm b d, Nat.mul_div_mul_right _ _ hb]
    exact_mod_cast this
theorem IsQ.eq {r : List Int × List Int} {N D N' D' : Int} (h : IsQ r N D) (hN : 0 ≤ N) (hD : 0 < D) (hN' : 0 ≤ N') (hD' : 0 < D') (he : N * D' = N' * D) : IsQ r N' D' := by
  obtain ⟨h1, h2, h3, h4⟩ := h
  obtain ⟨e1, e2⟩ := low_eq N D N' D' hN hD hN' hD' he
  exact ⟨h1, h2, by rw [h3, e1], by rw [h4, e2]⟩
theorem IsQ.cross {r : List Int × List Int} {N D : Int} (h : IsQ r N D) (hD : 0 < D) : vW r.1 * D = N * vW (den1 r.2) ∧ 0 < vW (den1 r.2) := by
  obtain ⟨h1, h2, h3, h4⟩ := h
  have e1 : N / (Int.gcd N D : Int) * (Int.gcd N D : Int) = N := Int.ediv_mul_cancel (Int.gcd_dvd_left _ _)
  have e2 : D / (Int.gcd N D : Int) * (Int.gcd N D : Int) = D := Int.ediv_mul_cancel (Int.gcd_dvd_right _ _)
  have gp := gcd_pos N D hD
  rw [h3, h4]
  generalize N / (Int.gcd N D : Int) = n at *
  generalize D / (Int.gcd N D : Int) = d at *
  generalize (Int.gcd N D : Int) = g at *
  refine ⟨by rw [← e1, ← e2]; grind, ?_⟩
  rcases Int.lt_or_le 0 d with h | h
  · exact h
  · exfalso
    have : d * g ≤ 0 * g := Int.mul_le_mul_of_nonneg_right h z3
    omega
end Go.Proofs.YtbanemecfobonaaDoor.B
