/- drawn's contract, under the laid map of the turns. -/
import Derived.Test.YtfbibheeogcacaaDoorXDH
import Derived.Test.YtfbibheeogcacaaDoorXF4
import Derived.Test.YtfbibheeogcacaaDoorXD2
import Derived.Test.YtfbibheeogcacaaDoorXC9
namespace Go.Proofs.YtfbibheeogcacaaDoor.B
open Go.RowKit Go.Proofs.YtfbibheeogcacaaDoorW.PrintWords Go.Proofs.YtfbibheeogcacaaDoorW.PrintLast Go.Proofs.YtfbibheeogcacaaDoorW.PrintMore
set_option linter.unusedVariables false
set_option linter.unusedSimpArgs false
/-- The map of the turns lies, and its look-up at 'L' gives turn_left. -/
def TailLaid (w : World) : Prop := ∃ bm, w.cell? ⟨0, 0, none⟩ = some (.map (some bm)) ∧ ∀ W', Below w.heap.size w W' → (Instr.lookup 80 (.map (some bm)) (.int .u8 76) false).run Tryd.prog W' = .ok (.func (.func 115) #[] #[]) W'
theorem TailLaid.below {w w1 : World} (h : TailLaid w) (hb : Below w.heap.size w w1) : TailLaid w1 := by
  obtain ⟨bm, h1, h2⟩ := h
  exact ⟨bm, cell_keep' hb h1, fun W' hb' => h2 W' (below_step hb hb')⟩
theorem gray_v : flash_Gray.f 3 2 = some (3, 0) := by decide +kernel
theorem same_v0 : neonwrighttop_same.f 3 [0] [0] = some true := by decide +kernel
theorem same_v1 : neonwrighttop_same.f 4 [2, 6] [2, 6] = some true := by decide +kernel
theorem lineC (W : World) : Kd.C k48 (W.alloc (.cells #[.int .i64 0, .int .i64 1, .int .i64 3] 48)) (some ⟨W.heap.size, 0, none⟩) 1 lineL := by
  have hh := blk_new W (.cells #[.int .i64 0, .int .i64 1, .int .i64 3] 48)
  refine ⟨rfl, by decide, fun _ => ⟨_, rfl, fun j p hj => ?_⟩⟩
  have hj0 : j = 0 := by
    rcases j with _ | j
    · rfl
    · simp [lineL] at hj
  subst hj0
  have hp : p = ⟨0, 1, 3⟩ := by simpa [lineL] using hj.symm
  subst hp
  refine ⟨[.int .i64 0, .int .i64 1, .int .i64 3], rfl, ⟨_, _, rfl, rfl, ⟨_, _, rfl, rfl, rfl⟩⟩, fun i u hi => ?_⟩
  have hc := cell_of_row _ _ i _ _ (0, 0) hh
  have ha : (⟨W.heap.size, 0, none⟩ : Addr).add (0 * k48.sz + i) = ⟨W.heap.size, i, none⟩ := by
    rcases i with _ | i <;> simp [Addr.add]
  rw [ha, hc]
  rw [← hi]
  rcases i with _ | _ | _ | i <;> rfl
theorem num1C (W : World) (x : Int) : Kd.C (Kd.int .i64) (W.alloc (.cells #[.int .i64 x] 3)) (some ⟨W.heap.size, 0, none⟩) 1 [x] := by
  have hh := blk_new W (.cells #[.int .i64 x] 3)
  refine ⟨rfl, by decide, fun _ => ⟨_, rfl, fun j p hj => ?_⟩⟩
  rcases j with _ | j
  · have hp : p = x := by simpa using hj.symm
    subst hp
    refine ⟨[.int .i64 p], rfl, rfl, fun i u hi => ?_⟩
    rcases i with _ | i
    · have hc := cell_of_row _ _ 0 _ _ (0, 0) hh
      have hu : Value.int .i64 p = u := by simpa using hi
      rw [← hu]
      exact hc
    · simp at hi
  · simp at hj
theorem num2C (W : World) (x y : Int) : Kd.C (Kd.int .i64) (W.alloc (.cells #[.int .i64 x, .int .i64 y] 3)) (some ⟨W.heap.size, 0, none⟩) 2 [x, y] := by
  have hh := blk_new W (.cells #[.int .i64 x, .int .i64 y] 3)
  refine ⟨rfl, by decide, fun _ => ⟨_, rfl, fun j p hj => ?_⟩⟩
  rcases j with _ | _ | j
  · have hp : p = x := by simpa using hj.symm
    subst hp
    refine ⟨[.int .i64 p], rfl, rfl, fun i u hi => ?_⟩
    rcases i with _ | i
    · have hc := cell_of_row _ _ 0 _ _ (0, 0) hh
      have hu : Value.int .i64 p = u := by simpa using hi
      rw [← hu]
      exact hc
    · simp at hi
  · have hp : p = y := by simpa using hj.symm
    subst hp
    refine ⟨[.int .i64 p], rfl, rfl, fun i u hi => ?_⟩
    rcases i with _ | i
    · have hc := cell_of_row _ _ 1 _ _ (0, 0) hh
      have hu : Value.int .i64 p = u := by simpa using hi
      rw [← hu]
      exact hc
    · simp at hi
  · simp at hj
theorem num2C' (W : World) (x y : Int) (g : Nat) (hg : g = W.heap.size) : Kd.C (Kd.int .i64) (W.alloc (.cells #[.int .i64 x, .int .i64 y] 3)) (some ⟨g, 0, none⟩) 2 [x, y] := hg ▸ num2C W x y
theorem same1 (A0 A1 : Option Addr) (c0 c1 : Nat) (w : World) (h0 : Kd.C (Kd.int .i64) w A0 1 [0]) (k0 : 1 ≤ c0) (h1 : Kd.C (Kd.int .i64) w A1 1 [0]) (k1 : 1 ≤ c1) :
    Calls Tryd.prog 22 #[.slice A0 1 c0, .slice A1 1 c1] w fun e w' => e = .returned (.bool true) ∧ Drawn0 w w' :=
  neonwrighttop_same.calls 3 A0 c0 [0] A1 c1 [0] true w h0 k0 h1 k1 same_v0
theorem same2 (A0 A1 : Option Addr) (c0 c1 : Nat) (w : World) (h0 : Kd.C (Kd.int .i64) w A0 2 [2, 6]) (k0 : 2 ≤ c0) (h1 : Kd.C (Kd.int .i64) w A1 2 [2, 6]) (k1 : 2 ≤ c1) :
    Calls Tryd.prog 22 #[.slice A0 2 c0, .slice A1 2 c1] w fun e w' => e = .returned (.bool true) ∧ Drawn0 w w' :=
  neonwrighttop_same.calls 4 A0 c0 [2, 6] A1 c1 [2, 6] true w h0 k0 h1 k1 same_v1
def neonwrighttop_drawn.f : Option Bool := some true
set_option maxHeartbeats 2000000 in
set_option maxRecDepth 100000 in
theorem drawn_one (w : World) (ht : TailLaid w) :
    Calls Tryd.prog 8 #[] w fun e w' => e = .returned (.bool true) ∧ Below w.heap.size w w' := by
  have HT := Aside0.mk ht
  clear ht
  go_enter Tryd.func8, Tryd.ntmps8
  go_wp2_with (first
    | (go_at_call 18; refine (Double_one w.heap.size 1 _ (lineC w)).mono ?_; rintro e w1 ⟨v1, rfl, hr1, hb1⟩; obtain ⟨A1, c1, rfl⟩ := Kd.R_slice hr1; have B1 := Aside0.mk (below_step (below_alloc (Below.refl w.heap.size w) _) hb1); have C1 := Aside0.mk (Kd.R_reads' hr1).2.2; have K1 : Aside0 (1 ≤ c1) := ⟨(Kd.R_reads' hr1).2.1⟩; have T1 := Aside0.mk (TailLaid.below HT.out B1.out); clear hr1 hb1)
    | (go_at_call 19; obtain ⟨bm, hg, hl⟩ := T1.out; refine (Free_LLL _ bm hg hl).mono ?_; rintro e w2 ⟨rfl, hb2⟩; have B2 := Aside0.mk (below_step B1.out hb2); have C2 := Aside0.mk (Kd.C_below C1.out hb2); clear hb2 hg hl)
    | (go_at_call 20; refine (Chain_six _).mono ?_; rintro e w3 ⟨v3, rfl, hr3, hb3⟩; obtain ⟨A3, c3, rfl⟩ := Kd.R_slice hr3; have B3 := Aside0.mk (below_step B2.out hb3); have C3 := Aside0.mk (Kd.C_below C2.out hb3); have D3 := Aside0.mk (Kd.R_reads' hr3).2.2; have K3 : Aside0 (2 ≤ c3) := ⟨(Kd.R_reads' hr3).2.1⟩; clear hr3 hb3)
    | (go_at_call 21; refine (flash_Gray.calls 3 2 3 0 _ gray_v).mono ?_; rintro e w4 ⟨rfl, ⟨nd, rfl⟩⟩)
    | (go_at_call 22; first | ((with_reducible refine (same1 A1 _ c1 1 _ ?sp K1.out ?sq (Nat.le_refl _)).mono ?_); (case sp => repeat (first | exact C3.out | refine Kd.C_alloc ?_ _ | refine Kd.C_drewN ?_ _)); (case sq => exact num1C _ 0); rintro e w5 ⟨rfl, ⟨nd5, rfl⟩⟩) | ((with_reducible refine (same2 A3 _ c3 2 _ ?sp K3.out ?sq (Nat.le_refl _)).mono ?_); (case sp => repeat (first | exact D3.out | refine Kd.C_alloc ?_ _ | refine Kd.C_drewN ?_ _)); (case sq => exact num2C' _ 2 6 _ (by simp [World.alloc, World.drewN])); rintro e w6 ⟨rfl, ⟨nd6, rfl⟩⟩)))
  go_ret
  exact ⟨rfl, pw_below_drewN (below_alloc (pw_below_drewN (below_alloc (pw_below_drewN B3.out _) _) _) _) _⟩
theorem neonwrighttop_drawn.calls (r : Bool) (w : World) (h : neonwrighttop_drawn.f = some r) (ht : TailLaid w) :
    Calls Tryd.prog 8 #[] w fun e w' => e = .returned (.bool r) ∧ Below w.heap.size w w' := by
  obtain rfl := Option.some.inj h
  exact drawn_one w ht
end Go.Proofs.YtfbibheeogcacaaDoor.B
