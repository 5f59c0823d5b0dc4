/- Written by a program (lite.py, squash.py, join.py) from my texts. -/
import Derived.Test.YtbanemecfobonaaDoorProg
import Derived.Below
import Derived.Deep.Draws
import Derived.Deep.AppendLies
import Derived.Maps.AppendAt
import Derived.OwnWalk
import Derived.Laws.BytesArg
import Derived.Laws.MakeOwn
import Derived.Laws.OwnMore
import Derived.Deep.OwnRows
import Derived.Tactics
import Derived.Lib.ConvBytes
import Derived.Laws.Slices
import Derived.WalkKit
import Derived.KernelRfl
import Derived.RowKit3
import Derived.Deep.LoopGhost
import Derived.Deep.QuietTactic
import Derived.BigQuiet
import Derived.WideLaws
import Derived.Deep.DeepCutAuto
import Derived.Deep.CutBlock
import Derived.Deep.RegionHeld3
import Derived.Laws.Rows
import Derived.Lib.AppendStr
import Derived.ArgAppend
import Derived.Laws.IdiomCopy
import Derived.OrdersHeld
import Derived.Laws.BitsLemmas
import Derived.RowKit
import Derived.Test.YtbanemecfobonaaDoorJ1o
import Derived.Maps.Own
import Derived.Maps.OwnOps
import Derived.Maps.Views
import Derived.Test.YtbanemecfobonaaDoorRows
import Derived.ProofKit
import Derived.OpenShut
import Derived.ShutString
import Derived.ChangeOld
import Derived.SizedLaws
import Derived.LaidMore
import Derived.Stop.Joined
import Derived.Lib.SmallJoins
import Derived.Deep.Slices
import Derived.Deep.Fields
import Derived.ChangeSame
namespace Go.Proofs.YtbanemecfobonaaDoor.B
open Go.RowKit Go.Proofs.YtbanemecfobonaaDoorW.PrintWords Go.Proofs.YtbanemecfobonaaDoorW.PrintLast Go.Proofs.YtbanemecfobonaaDoorW.PrintMore
attribute [local go_sem] max2_int min2_int max_two min_two max_three min_three max_four min_four
set_option linter.unusedVariables false
set_option linter.unusedSimpArgs false
def errW : Option Int → Value
  | none => .nilIface
  | some c => .iface 0 (.int .i64 c)
theorem errW_none : errW none = .nilIface := rfl
theorem errW_some (c : Int) : errW (some c) = .iface 0 (.int .i64 c) := rfl
theorem info3 : (Tryd.prog.info? 3).map (fun i => (i.zero, i.size, i.bytes)) = some (some (.int .i64 0), 1, 8) := by kernel_rfl
theorem info4 : (Tryd.prog.info? 4).map (fun i => (i.zero, i.size, i.bytes)) = some (some (.bool false), 1, 1) := by kernel_rfl
theorem info55 : (Tryd.prog.info? 55).map (fun i => (i.zero, i.size, i.bytes)) = some (some (.agg #[(.int .i64 0), (.int .i64 0), (.int .i64 0), (.int .i64 0)]), 4, 32) := by kernel_rfl
theorem info149 : (Tryd.prog.info? 149).map (fun i => (i.zero, i.size, i.bytes)) = some (some (.int .u32 0), 1, 4) := by kernel_rfl
structure S24 where
  f0 : Int
  f1 : (List Int)
def z24 : S24 := ⟨(0 : Int), ([] : List Int)⟩
def k24 : Kd S24 := Kd.iso (Kd.pair (Kd.int .i64) (Kd.slice 3 (Kd.int .i64))) (fun x : S24 => (x.f0, x.f1))
theorem k24_open {w : World} {x : S24} {cs : List Value} (h : k24.K w x cs) : ∃ A1 c1, cs = [.int .i64 x.f0, .slice A1 x.f1.length c1] ∧ x.f1.length ≤ c1 ∧ (Kd.int .i64).C w A1 x.f1.length x.f1 := by
  obtain ⟨_, _, rfl, rfl, ⟨A1, c1, rfl, l1, g1⟩⟩ := h
  exact ⟨A1, c1, rfl, l1, g1⟩
theorem k24_mkM (w : World) (base : Nat) (ok : Nat → Prop) (x : S24) {v1 : Value} (g1 : (Kd.int .i64).R 3 w base ok v1 x.f1) : k24.M w base ok x [.int .i64 x.f0, v1] := ⟨[.int .i64 x.f0], [v1], rfl, rfl, ⟨v1, rfl, g1⟩⟩
def rd_T24 (xs : List S24) (i : Int) : S24 := xs.getD i.toNat z24
theorem at_T24 {w : World} {A : Option Addr} {n : Nat} {xs : List S24} (h : Kd.C k24 w A n xs) (i : Int) (h0 : 0 ≤ i) (h1 : i < n) : ∃ ad A1 c1, A = some ad ∧ w.cell? (ad.add (i.toNat * 2)) = some (.int .i64 (rd_T24 xs i).f0) ∧ w.cell? ⟨(ad.add (i.toNat * 2)).block, (ad.add (i.toNat * 2)).off + 1, none⟩ = some (.slice A1 (rd_T24 xs i).f1.length c1) ∧ (rd_T24 xs i).f1.length ≤ c1 ∧ (Kd.int .i64).C w A1 (rd_T24 xs i).f1.length (rd_T24 xs i).f1 := by
  obtain ⟨ad, c, e, _, hK, hc0⟩ := Kd.C_get h z24 i h0 h1
  have hc : ∀ j u, c[j]? = some u → w.cell? (ad.add (i.toNat * 2 + j)) = some u := hc0
  obtain ⟨A1, c1, rfl, l1, g1⟩ := k24_open hK
  exact ⟨ad, A1, c1, e, hc 0 _ rfl, by rw [← add_field _ _ 1 (by omega)]; exact hc 1 _ rfl, l1, g1⟩
structure S55 where
  f0 : Int
  f1 : Int
  f2 : Int
  f3 : Int
def z55 : S55 := ⟨(0 : Int), (0 : Int), (0 : Int), (0 : Int)⟩
def k55 : Kd S55 := Kd.iso (Kd.pair (Kd.int .i64) (Kd.pair (Kd.int .i64) (Kd.pair (Kd.int .i64) (Kd.int .i64)))) (fun x : S55 => (x.f0, x.f1, x.f2, x.f3))
theorem k55_open {w : World} {x : S55} {cs : List Value} (h : k55.K w x cs) : cs = [.int .i64 x.f0, .int .i64 x.f1, .int .i64 x.f2, .int .i64 x.f3] := by
  obtain ⟨_, _, rfl, rfl, ⟨_, _, rfl, rfl, ⟨_, _, rfl, rfl, rfl⟩⟩⟩ := h
  exact rfl
theorem k55_mk (w : World) (x : S55)  : k55.K w x [.int .i64 x.f0, .int .i64 x.f1, .int .i64 x.f2, .int .i64 x.f3] := ⟨[.int .i64 x.f0], [.int .i64 x.f1, .int .i64 x.f2, .int .i64 x.f3], rfl, rfl, ⟨[.int .i64 x.f1], [.int .i64 x.f2, .int .i64 x.f3], rfl, rfl, ⟨[.int .i64 x.f2], [.int .i64 x.f3], rfl, rfl, rfl⟩⟩⟩
theorem k55_mkM (w : World) (base : Nat) (ok : Nat → Prop) (x : S55)  : k55.M w base ok x [.int .i64 x.f0, .int .i64 x.f1, .int .i64 x.f2, .int .i64 x.f3] := ⟨[.int .i64 x.f0], [.int .i64 x.f1, .int .i64 x.f2, .int .i64 x.f3], rfl, rfl, ⟨[.int .i64 x.f1], [.int .i64 x.f2, .int .i64 x.f3], rfl, rfl, ⟨[.int .i64 x.f2], [.int .i64 x.f3], rfl, rfl, rfl⟩⟩⟩
def rd_T55 (xs : List S55) (i : Int) : S55 := xs.getD i.toNat z55
theorem at_T55 {w : World} {A : Option Addr} {n : Nat} {xs : List S55} (h : Kd.C k55 w A n xs) (i : Int) (h0 : 0 ≤ i) (h1 : i < n) : ∃ ad , A = some ad ∧ w.cell? (ad.add (i.toNat * 4)) = some (.int .i64 (rd_T55 xs i).f0) ∧ w.cell? ⟨(ad.add (i.toNat * 4)).block, (ad.add (i.toNat * 4)).off + 1, none⟩ = some (.int .i64 (rd_T55 xs i).f1) ∧ w.cell? ⟨(ad.add (i.toNat * 4)).block, (ad.add (i.toNat * 4)).off + 2, none⟩ = some (.int .i64 (rd_T55 xs i).f2) ∧ w.cell? ⟨(ad.add (i.toNat * 4)).block, (ad.add (i.toNat * 4)).off + 3, none⟩ = some (.int .i64 (rd_T55 xs i).f3) := by
  obtain ⟨ad, c, e, _, hK, hc0⟩ := Kd.C_get h z55 i h0 h1
  have hc : ∀ j u, c[j]? = some u → w.cell? (ad.add (i.toNat * 4 + j)) = some u := hc0
  obtain rfl := k55_open hK
  exact ⟨ad, e, hc 0 _ rfl, by rw [← add_field _ _ 1 (by omega)]; exact hc 1 _ rfl, by rw [← add_field _ _ 2 (by omega)]; exact hc 2 _ rfl, by rw [← add_field _ _ 3 (by omega)]; exact hc 3 _ rfl⟩
theorem bel0 {n : Nat} {w W : World} (h : Below n w W := by repeat (first | (with_reducible first | exact HB.out | apply bAl | apply pBd | apply bD1 | refine below_set ?_ (Aside0.out (by assumption))) | exact HB.out)) : Below n w W := h
theorem blkA {P Q : Prop} (h : P) (f : P → Q := by intro H_; (with_reducible repeat (first | refine kDn ?_ _ | refine kDr ?_ | refine kAl ?_ _)); exact H_) : Q := f h
theorem rA {P Q : Prop} (h : P) (f : P → Q := by intro H_; (with_reducible repeat (first | apply Kd.R_alloc | apply Kd.R_drewN | apply Kd.R_drew)); exact H_) : Q := f h
theorem blkB {w w' W : World} {g : Nat} {o : Obj} (h : w.heap[g]? = some o) (hb : Below W.heap.size W w') (f : w.heap[g]? = some o → W.heap[g]? = some o := by intro H_; (with_reducible repeat (first | refine kDn ?_ _ | refine kDr ?_ | refine kAl ?_ _)); exact H_) : w'.heap[g]? = some o := kBl (f h) hb
theorem neB {w W : World} {g g' : Nat} {o : Obj} (h : w.heap[g]? = some o) (hg : g' = W.heap.size) (f : w.heap[g]? = some o → W.heap[g]? = some o := by intro H_; (with_reducible repeat (first | refine kDn ?_ _ | refine kDr ?_ | refine kAl ?_ _)); exact H_) : g ≠ g' := by rw [hg]; exact Nat.ne_of_lt (blk_lt (f h))
theorem neC {w W : World} {g g' : Nat} {o : Obj} (h : w.heap[g]? = some o) (hg : g' = W.heap.size) (f : w.heap[g]? = some o → W.heap[g]? = some o := by intro H_; (with_reducible repeat (first | refine kDn ?_ _ | refine kDr ?_ | refine kAl ?_ _)); exact H_) : g' ≠ g := (neB h hg f).symm
theorem geB {w W : World} {g : Nat} (hg : g = W.heap.size) (h : Below w.heap.size w W := by repeat (first | (with_reducible first | exact HB.out | apply bAl | apply pBd | apply bD1 | refine below_set ?_ (Aside0.out (by assumption))) | exact HB.out)) : w.heap.size ≤ g := by rw [hg]; exact bSz h
theorem cA {P Q : Prop} (h : P) (f : P → Q := by intro H_; repeat (first | exact H_ | (with_reducible refine Kd.C_alloc ?_ _) | (with_reducible refine Kd.C_drewN ?_ _) | (with_reducible refine Kd.C_drew ?_))) : Q := f h
theorem bk2 {w : World} {g : Nat} {t : TypeId} {x0 x1 : Value} (h : w.heap[g]? = some (.cells #[x0, x1] t (0, 0))) : w.cell? ⟨g, 0, none⟩ = some x0 ∧ w.cell? ⟨g, 1, none⟩ = some x1 ∧ w.frozen? ⟨g, 0, none⟩ = false ∧ w.frozen? ⟨g, 1, none⟩ = false := ⟨(bCl h 0).trans rfl, (bCl h 1).trans rfl, bFr h 0, bFr h 1⟩
theorem bk3 {w : World} {g : Nat} {t : TypeId} {x0 x1 x2 : Value} (h : w.heap[g]? = some (.cells #[x0, x1, x2] t (0, 0))) : w.cell? ⟨g, 0, none⟩ = some x0 ∧ w.cell? ⟨g, 1, none⟩ = some x1 ∧ w.cell? ⟨g, 2, none⟩ = some x2 ∧ w.frozen? ⟨g, 0, none⟩ = false ∧ w.frozen? ⟨g, 1, none⟩ = false ∧ w.frozen? ⟨g, 2, none⟩ = false := ⟨(bCl h 0).trans rfl, (bCl h 1).trans rfl, (bCl h 2).trans rfl, bFr h 0, bFr h 1, bFr h 2⟩
theorem bk4 {w : World} {g : Nat} {t : TypeId} {x0 x1 x2 x3 : Value} (h : w.heap[g]? = some (.cells #[x0, x1, x2, x3] t (0, 0))) : w.cell? ⟨g, 0, none⟩ = some x0 ∧ w.cell? ⟨g, 1, none⟩ = some x1 ∧ w.cell? ⟨g, 2, none⟩ = some x2 ∧ w.cell? ⟨g, 3, none⟩ = some x3 ∧ w.frozen? ⟨g, 0, none⟩ = false ∧ w.frozen? ⟨g, 1, none⟩ = false ∧ w.frozen? ⟨g, 2, none⟩ = false ∧ w.frozen? ⟨g, 3, none⟩ = false := ⟨(bCl h 0).trans rfl, (bCl h 1).trans rfl, (bCl h 2).trans rfl, (bCl h 3).trans rfl, bFr h 0, bFr h 1, bFr h 2, bFr h 3⟩
theorem oD {p : Prop} [i : Decidable p] (h : decide p = true) : p := of_decide_eq_true h
theorem dT {p : Prop} [i : Decidable p] (h : p) : decide p = true := decide_eq_true h
theorem dF {p : Prop} [i : Decidable p] (h : ¬ p) : decide p = false := decide_eq_false h
theorem sI {α : Type} {a b : α} (h : some a = some b) : a = b := Option.some.inj h
theorem aM {P : Prop} (h : P) : Aside0 P := Aside0.mk h
theorem oB {α β : Type} {x : Option α} {f : α → Option β} {b : β} (h : x.bind f = some b) : ∃ a, x = some a ∧ f a = some b := Option.bind_eq_some_iff.mp h
theorem kpc {w w' : World} {a : Addr} {x : Value} (hb : Below w.heap.size w w') (h : w.cell? a = some x) : w'.cell? a = some x := (hb.cell (World.block_lt_of_cell? w _ h)).trans h
theorem z1 {P : Prop} (h : P := by (try simp only [List.map_toArray, List.map_cons, List.map_nil]); first | done | rfl | (simp only [List.length_drop, List.length_take]; rfl)) : P := h
theorem z2 {P : Prop} (h : P := by first | (with_reducible assumption) | assumption) : P := h
theorem z3 {P : Prop} (h : P := by omega) : P := h
theorem z4 {P : Prop} (h : P := by first | rfl | (simp; done) | (simp [*]; done)) : P := h
theorem z5 {P : Prop} (h : P := by kernel_rfl) : P := h
theorem z6 {P : Prop} (h : P := by (with_reducible repeat (first | apply Kd.R_alloc | apply Kd.R_drewN | apply Kd.R_drew)); exact (Kd.R_mono (Kd.R_mono (Kd.R_far (p := ⟨gb267, 1, none⟩) (Kd.R_far (p := ⟨gb267, 0, none⟩) (Kd.R_far (p := ⟨gb266, 1, none⟩) (Kd.R_far (p := ⟨gb266, 0, none⟩) (Kd.R_types (Kd.R_types HO256.out BK266.out (by decide)) BK267.out (by decide)) (fun _ hk => hk.1.2) (.bool t258)) (fun _ hk => hk.1.2) (.slice Ao34 t259.length co34)) (fun _ hk => hk.2) (.bool t262)) (fun _ hk => hk.2) (.slice Ao40 t263.length co40)) (fun _ h_ => h_.1)) (fun _ h_ => h_.1))) : P := h
theorem z7 {P : Prop} (h : P := by repeat (first | exact Below.refl _ _ | apply bAl | apply pBd | apply bD1)) : P := h
theorem z8 {P : Prop} (h : P := by repeat (first | exact HB.out | apply bAl | apply pBd | apply bD1)) : P := h
theorem z9 {P : Prop} (h : P := by decide) : P := h
theorem z10 {P : Prop} (h : P := by repeat (first | exact HRg.out | (with_reducible refine Kd.C_drewN ?_ _) | (with_reducible refine Kd.C_alloc ?_ _) | (with_reducible refine Kd.C_drew ?_))) : P := h
theorem z11 {P : Prop} (h : P := by repeat (first | exact HI.out | apply IsRd.drewN | apply IsRd.alloc | apply IsRd.drew)) : P := h
theorem z12 {P : Prop} (h : P := by (with_reducible repeat (first | apply Kd.R_alloc | apply Kd.R_drewN | apply Kd.R_drew)); exact (Kd.R_mono (Kd.R_mono (Kd.R_far (p := ⟨gb267, 1, none⟩) (Kd.R_far (p := ⟨gb267, 0, none⟩) (Kd.R_far (p := ⟨gb266, 1, none⟩) (Kd.R_far (p := ⟨gb266, 0, none⟩) (Kd.R_types (Kd.R_types HO261.out BK266.out z9) BK267.out z9) (fun _ hk => hk.1.2) (.bool t258)) (fun _ hk => hk.1.2) (.slice Ao34 t259.length co34)) (fun _ hk => hk.2) (.bool t262)) (fun _ hk => hk.2) (.slice Ao40 t263.length co40)) (fun _ h_ => h_.1)) (fun _ h_ => h_.1))) : P := h
theorem z13 {P : Prop} (h : P := by (with_reducible repeat (first | apply Kd.R_alloc | apply Kd.R_drewN | apply Kd.R_drew)); exact (Kd.R_mono (Kd.R_mono (Kd.R_far (p := ⟨gb267, 1, none⟩) (Kd.R_far (p := ⟨gb267, 0, none⟩) (Kd.R_far (p := ⟨gb266, 1, none⟩) (Kd.R_far (p := ⟨gb266, 0, none⟩) (Kd.R_types (Kd.R_types HO265.out BK266.out z9) BK267.out z9) (fun _ hk => hk.1.2) (.bool t258)) (fun _ hk => hk.1.2) (.slice Ao34 t259.length co34)) (fun _ hk => hk.2) (.bool t262)) (fun _ hk => hk.2) (.slice Ao40 t263.length co40)) (fun _ h_ => h_.1)) (fun _ h_ => h_.1))) : P := h
theorem z14 {P : Prop} (h : P := by (with_reducible repeat (first | apply Kd.R_alloc | apply Kd.R_drewN | apply Kd.R_drew)); exact (Kd.R_mono (Kd.R_far (p := ⟨gb257, 1, none⟩) (Kd.R_far (p := ⟨gb257, 0, none⟩) (Kd.R_types HO256.out BK257.out z9) (fun _ hk => hk.2) (.bool t253)) (fun _ hk => hk.2) (.slice Ao23 t254.length co23)) (fun _ h_ => h_.1))) : P := h
theorem z15 {P : Prop} (h : P := by repeat (first | exact Below.refl _ _ | exact B4.out | exact B3.out | exact B2.out | exact B1.out | apply bAl | apply pBd | apply bD1)) : P := h
theorem z16 {P : Prop} (h : P := by repeat (first | exact Below.refl _ _ | exact B6.out | exact B5.out | exact B4.out | exact B3.out | exact B2.out | exact B1.out | apply bAl | apply pBd | apply bD1)) : P := h
attribute [local go_sem] max2_int min2_int max_two min_two max_three min_three max_four min_four
set_option linter.unusedVariables false
set_option linter.unusedSimpArgs false
def bus_longest.f (a0 : Int) : Option (Int) := some (wrap64 ((wrap64 (47 + (wrap64 (8 * a0)))) + (wrap64 (Int.tdiv (wrap64 (33 + (wrap64 (8 * a0)))) 4))))
set_option maxHeartbeats 8000000 in
set_option maxRecDepth 100000 in
theorem bus_longest.calls (a0 : Int) (r : Int) (w : World) (h : bus_longest.f a0 = some r) :
    Calls Tryd.prog 59 #[.int .i64 a0] w fun e w' => e = .returned (.int .i64 r) ∧ Drawn0 w w' := by
  have H : (some (wrap64 ((wrap64 (47 + (wrap64 (8 * a0)))) + (wrap64 (Int.tdiv (wrap64 (33 + (wrap64 (8 * a0)))) 4))))) = some r := h
  clear h
  obtain rfl := sI H
  go_enter Tryd.func59, Tryd.ntmps59
  go_wp2
  go_ret
  exact ⟨by first | rfl | (simp; done) | (simp [*]; done), by repeat (first | exact Drawn0.refl _ | apply Drawn0.step)⟩
def bus_check.l0 : Nat → Int → List Int → Int → Int → Option (Int)
  | 0, _, _, _, _ => none
  | k + 1, x3, x7, x8, x9 => if x9 < x8 then (if 0 ≤ x9 then (if x9 < (x7.length : Int) then (if (x3 / 16384) = (rd x7 x9) then (bus_check.l0 k (Go.bits .and .i64 (wrap64 (x3 * 2)) 32767) x7 x8 (wrap64 (x9 + 1))) else (bus_check.l0 k (Go.bits .xor .i64 (Go.bits .and .i64 (wrap64 (x3 * 2)) 32767) 17817) x7 x8 (wrap64 (x9 + 1)))) else (none)) else (none)) else (some x3)
def bus_check.f (k : Nat) (l0 : List Int) : Option (Int) := bus_check.l0 k 0 l0 (l0.length : Int) 0
set_option maxHeartbeats 8000000 in
set_option maxRecDepth 100000 in
theorem bus_check.calls (k : Nat) (A0 : Option Addr) (c0 : Nat) (l0 : List Int) (r : Int) (w : World) (hr0 : Kd.C (Kd.int .i64) w A0 l0.length l0) (hc0 : l0.length ≤ c0) (h : bus_check.f k l0 = some r) :
    Calls Tryd.prog 62 #[.slice A0 l0.length c0] w fun e w' => e = .returned (.int .i64 r) ∧ Drawn0 w w' := by
  have HR0 := aM hr0; have HC0 := aM hc0; clear hr0 hc0; (have H : (bus_check.l0 k 0 l0 (l0.length : Int) 0) = some r := h); clear h; have H' := aM H; clear H; (go_enter Tryd.func62, Tryd.ntmps62); go_wp2; (go_loopg [3, 9] k (fun kq v3 v9 w' => ∃ (x3_1 : Int) (x9_1 : Int), v3 = .int .i64 x3_1 ∧ v9 = .int .i64 x9_1 ∧ Aside0 (bus_check.l0 kq x3_1 l0 (l0.length : Int) x9_1 = some r) ∧ Aside0 (kq ≤ k) ∧ Drawn0 w w')); (case atStart => exact ⟨(0), (0), z4, z4, H', ⟨Nat.le_refl _⟩, by repeat (first | exact Drawn0.refl _ | apply Drawn0.step)⟩)
  case round =>
   clear H'; obtain ⟨x3_1, x9_1, rfl, rfl, HA, HK1, ⟨m1, rfl⟩⟩ := hrel
   cases gk with
   | zero => exact absurd HA.out (by simp [bus_check.l0])
   | succ k1 =>
    have H := HA.out; clear HA; simp only [bus_check.l0] at H; by_cases c2 : x9_1 < (l0.length : Int); rotate_left
    · rw [if_neg c2] at H; (have c2b0 : decide (x9_1 < (l0.length : Int)) = false := dF c2); clear c2; (obtain rfl := sI H); go_wp2; go_ret; (exact ⟨by first | rfl | (simp; done) | (simp [*]; done), by repeat (first | exact Drawn0.refl _ | apply Drawn0.step)⟩)
    rw [if_pos c2] at H; (have c2b0 : decide (x9_1 < (l0.length : Int)) = true := dT c2); clear c2; by_cases c3 : 0 ≤ x9_1; rotate_left
    · rw [if_neg c3] at H; (exact absurd H (by simp))
    rw [if_pos c3] at H; (have c3b0 : decide (0 ≤ x9_1) = true := dT c3); clear c3; by_cases c4 : x9_1 < (l0.length : Int); rotate_left
    · rw [if_neg c4] at H; (exact absurd H (by simp))
    rw [if_pos c4] at H; (have c4b0 : decide (x9_1 < (l0.length : Int)) = true := dT c4); clear c4; by_cases c5 : (x3_1 / 16384) = (rd l0 x9_1)
    · rw [if_pos c5] at H; (have c5b0 : ((x3_1 / 16384) == (rd l0 x9_1)) = true := beq_iff_eq.mpr c5); (have c5b1 : ((x3_1 / 16384) != (rd l0 x9_1)) = false := bne_eq_false_iff_eq.mpr c5); clear c5; have H' := aM H; clear H; (have p342 : 0 ≤ (x9_1 : Int) := oD z2); (have q342 : x9_1 < (l0.length : Int) := oD z2); (obtain ⟨ad342, e342, hx342_0⟩ := Kd.at_int HR0.out x9_1 p342 q342); cases e342; (replace p342 := eq_true p342); (replace q342 := eq_true q342); go_wp2; (go_roundg k1); (case measure => have := HK1.out; omega); (case rel => exact ⟨(Go.bits .and .i64 (wrap64 (x3_1 * 2)) 32767), (wrap64 (x9_1 + 1)), z4, z4, H', ⟨by have := HK1.out; omega⟩, by repeat (first | exact Drawn0.refl _ | apply Drawn0.step)⟩)
    rw [if_neg c5] at H; (have c5b0 : ((x3_1 / 16384) == (rd l0 x9_1)) = false := beq_eq_false_iff_ne.mpr c5); (have c5b1 : ((x3_1 / 16384) != (rd l0 x9_1)) = true := bne_iff_ne.mpr c5); have H' := aM H; clear H; (have p342 : 0 ≤ (x9_1 : Int) := oD z2); (have q342 : x9_1 < (l0.length : Int) := oD z2); (obtain ⟨ad342, e342, hx342_0⟩ := Kd.at_int HR0.out x9_1 p342 q342); cases e342; (replace p342 := eq_true p342); (replace q342 := eq_true q342); go_wp2; (go_roundg k1); (case measure => have := HK1.out; omega); (case rel => exact ⟨(Go.bits .xor .i64 (Go.bits .and .i64 (wrap64 (x3_1 * 2)) 32767) 17817), (wrap64 (x9_1 + 1)), z4, z4, H', ⟨by have := HK1.out; omega⟩, by repeat (first | exact Drawn0.refl _ | apply Drawn0.step)⟩)
def bus_bits.f (a0_0 : Int) (a0_1 : Int) (a0_2 : Int) (a0_3 : Int) : Option (Int) := (bus_longest.f a0_1).bind fun t823 => (some t823)
set_option maxHeartbeats 8000000 in
set_option maxRecDepth 100000 in
theorem bus_bits.calls (a0_0 : Int) (a0_1 : Int) (a0_2 : Int) (a0_3 : Int) (r : Int) (w : World) (h : bus_bits.f a0_0 a0_1 a0_2 a0_3 = some r) :
    Calls Tryd.prog 87 #[.agg #[.int .i64 a0_0, .int .i64 a0_1, .int .i64 a0_2, .int .i64 a0_3]] w fun e w' => e = .returned (.int .i64 r) ∧ Below w.heap.size w w' := by
  have hu55 := Tryd.underlying55; (have HB := aM (Below.refl w.heap.size w)); (have H : ((bus_longest.f a0_1).bind fun t823 => (some t823)) = some r := h); clear h; (replace H := oB H); obtain ⟨t823, A20, H⟩ := H; (replace H : (some t823) = some r := H); have A2 := aM A20; clear A20; (obtain rfl := sI H); (go_enter Tryd.func87, Tryd.ntmps87); (go_wp2_with (first | ((with_reducible refine gate_dst (N := 1) rfl ?_); refine box_event ?hg (N := 1) ?hd (cs := #[.int .i64 a0_0, .int .i64 a0_1, .int .i64 a0_2, .int .i64 a0_3]) (t := 55) ?hr ?_; (case hd => rfl); (case hg => rfl); (case hr => first | (go_simp; done) | (go_simp; rfl)); intro gb822 hg w3 hbox hb; have BK822 := aM (hbox); have GW822 := aM (geB hg : w.heap.size ≤ gb822); have GE822 := aM (geB hg : w.heap.size ≤ gb822); replace HB := aM (bSt bel0 hb); clear hb hbox hg; obtain ⟨hcz4_0, hcz4_1, hcz4_2, hcz4_3, hfz4_0, hfz4_1, hfz4_2, hfz4_3⟩ := bk4 BK822.out) | ((with_reducible refine gate_callee (f := 59) rfl ?_); refine goesL_ (some 5) rfl rfl Tryd.func59 z5 rfl #[.int .i64 a0_1] rfl z1 ?_; (with_reducible refine (bus_longest.calls a0_1 t823 _ A2.out).mono ?_); rintro e w' ⟨rfl, ⟨nd, rfl⟩⟩; refine ⟨_, rfl, ?_⟩)))
  go_ret; (exact ⟨by first | rfl | (simp [errW_none, errW_some] <;> rfl) | (simp [*, errW_none, errW_some] <;> rfl), bel0⟩)
def bus_appended.l0 : Nat → List Int → Int → Int → Option (List Int)
  | 0, _, _, _ => none
  | k + 1, x0, x1, x7 => if x7 ≥ 0 then (if 0 ≤ x7 then (if x0.length < 17592186044416 then (bus_appended.l0 k (x0 ++ [Go.bits .and .i64 (shr .i64 x1 x7) 1]) x1 (wrap64 (x7 - 1))) else (none)) else (none)) else (some x0)
def bus_appended.f (k : Nat) (l0 : List Int) (a1 : Int) (a2 : Int) : Option (List Int) := bus_appended.l0 k l0 a1 (wrap64 (a2 - 1))
set_option maxHeartbeats 8000000 in
set_option maxRecDepth 100000 in
theorem bus_appended.calls (k : Nat) (P0_ : Nat → Prop) (u9000_ : Value) (l0 : List Int) (a1 : Int) (a2 : Int) (r : List Int) (w0 w : World) (hB : Below w0.heap.size w0 w) (ho0 : Kd.R (Kd.int .i64) 3 w w0.heap.size P0_ u9000_ l0) (h : bus_appended.f k l0 a1 a2 = some r) :
    Calls Tryd.prog 118 #[u9000_, .int .i64 a1, .int .i64 a2] w fun e w' => ∃ v0_ : Value, e = .returned (v0_) ∧ Kd.R (Kd.int .i64) 3 w' w0.heap.size (fun k_ => (P0_ k_ ∨ w.heap.size ≤ k_)) v0_ r ∧ Below w0.heap.size w0 w' ∧ Kept w w' (fun k_ => P0_ k_) := by
  (have HO0 := aM (show Kd.R (Kd.int .i64) 3 w w0.heap.size (fun k_ => (P0_ k_ ∨ w.heap.size ≤ k_)) u9000_ l0 from Kd.R_mono ho0 (fun k_ hk => (.inl hk)))); (have HK := aM (Kept.refl w (fun k_ => P0_ k_))); have HW0 := aM hB.size; have HB := aM hB; clear hB; (have H : (bus_appended.l0 k l0 a1 (wrap64 (a2 - 1))) = some r := h); clear h; have H' := aM H; clear H; (go_enter Tryd.func118, Tryd.ntmps118); go_wp2; (go_loopg [0, 7] k (fun kq v0 v7 w' => ∃ (x0_1 : List Int) (x7_1 : Int), v7 = .int .i64 x7_1 ∧ Aside0 (bus_appended.l0 kq x0_1 a1 x7_1 = some r) ∧ Aside0 (kq ≤ k) ∧ Aside0 (Kd.R (Kd.int .i64) 3 w' w0.heap.size (fun k_ => (P0_ k_ ∨ w.heap.size ≤ k_)) v0 x0_1) ∧ Aside0 (Kept w w' (fun k_ => P0_ k_)) ∧ Aside0 (Below w0.heap.size w0 w'))); (case atStart => exact ⟨(l0), (wrap64 (a2 - 1)), z4, H', ⟨Nat.le_refl _⟩, ⟨by (with_reducible repeat (first | apply Kd.R_alloc | apply Kd.R_drewN | apply Kd.R_drew)); exact HO0.out⟩, ⟨by repeat (first | (with_reducible first | exact HK.out | apply Kept.alloc | apply Kept.drewN | apply Kept.drew) | exact HK.out)⟩, ⟨bel0⟩⟩)
  case round =>
   clear H'; (try clear c1); (try clear p2); obtain ⟨x0_1, x7_1, rfl, HA, HK1, HO_0, HK, HB⟩ := hrel
   cases gk with
   | zero => exact absurd HA.out (by simp [bus_appended.l0])
   | succ k1 =>
    have H := HA.out; clear HA; simp only [bus_appended.l0] at H; by_cases c4 : x7_1 ≥ 0; rotate_left
    · rw [if_neg c4] at H; (have c4b0 : decide (0 ≤ x7_1) = false := dF c4); clear c4; (obtain rfl := sI H); go_wp2; go_ret; (exact ⟨_, by first | rfl | (simp [errW_none, errW_some] <;> rfl) | (simp [*, errW_none, errW_some] <;> rfl), rA HO_0.out, bel0, by repeat (first | (with_reducible first | exact HK.out | apply Kept.alloc | apply Kept.drewN | apply Kept.drew) | exact HK.out)⟩)
    rw [if_pos c4] at H; (have c4b0 : decide (0 ≤ x7_1) = true := dT c4); clear c4; by_cases c5 : 0 ≤ x7_1; rotate_left
    · rw [if_neg c5] at H; (exact absurd H (by simp))
    rw [if_pos c5] at H; (have c5b0 := eq_true c5); (have c5b1 : decide (0 ≤ x7_1) = true := dT c5); clear c5; (obtain ⟨ji6, hji6⟩ : ∃ j_ : Int, (shr .i64 a1 x7_1) = j_ := ⟨_, rfl⟩); (replace H : (if x0_1.length < 17592186044416 then (bus_appended.l0 k1 (x0_1 ++ [Go.bits .and .i64 (ji6) 1]) a1 (wrap64 (x7_1 - 1))) else (none)) = some r := by first | (rw [hji6] at H; exact H) | (simp only [hji6] at H ⊢; exact H)); (have hji6_ : (a1 / 2 ^ min x7_1.toNat 64) = ji6 := hji6); (have hji6z : x7_1 ≤ 64 → (a1 / 2 ^ x7_1.toNat) = ji6 := shr_small hji6); by_cases c7 : x0_1.length < 17592186044416; rotate_left
    · rw [if_neg c7] at H; (exact absurd H (by simp))
    rw [if_pos c7] at H; have LMc7 := aM c7; clear c7; (obtain ⟨y935, hy935⟩ : ∃ y_ : List Int, y_ = (x0_1 ++ [Go.bits .and .i64 (ji6) 1]) := ⟨_, rfl⟩); (replace H : (bus_appended.l0 k1 y935 a1 (wrap64 (x7_1 - 1))) = some r := by first | (rw [hy935]; with_reducible exact H) | (have H2_ := (Option.bind_some _ _).symm.trans H; rw [hy935]; with_reducible exact H2_) | (have H2_ := (Option.bind_some _ _).symm.trans H; with_reducible exact H2_) | with_reducible exact H | (rw [hy935]; exact H) | exact H); have Ny935 := aM hy935; clear hy935; have H' := aM H; clear H; (go_wp2_with (first | ((with_reducible refine gate_builtin (b := .append) (xs := #[.tmp 14, .tmp 19]) rfl ?_); at_builtin; refine Kd.R_append (Kd.int .i64) (w0 := w0) w0.heap.size rfl (.tmp 14) (.tmp 19) 22 3 (.int .i64 0) 8 rfl Tryd.underlying22 info3 rfl z9 z3 u0 x0_1 (Go.bits .and .i64 (ji6) 1) [.int .i64 (Go.bits .and .i64 (ji6) 1)] (fun k_ => (P0_ k_ ∨ w.heap.size ≤ k_)) (fun _ => False) rfl rfl ?aP (fun _ hk => hk.elim) ?aF ?aO ?aB ?aS ?aL ?_; (case aP => exact rfl); (case aB => exact bel0); (case aF => exact (fun k_ hk => (.inr (Nat.le_trans (by first | exact HK.out.1 | exact (show Kept w _ (fun k_ => P0_ k_) from by repeat (first | (with_reducible first | exact HK.out | apply Kept.alloc | apply Kept.drewN | apply Kept.drew) | exact HK.out)).1) hk)))); (case aO => exact (rA HO_0.out)); (case aS => exact (bSz bel0)); (case aL => have := LMc7.out; omega); intro v936 w8 ho hb hg hat; rw [← Ny935.out] at ho; replace HB := aM (hb); replace HK := aM (Kept.of_grown (S := (fun k_ => P0_ k_)) hg (by repeat (first | (with_reducible first | exact HK.out | apply Kept.alloc | apply Kept.drewN | apply Kept.drew) | exact HK.out)) (fun k_ e_ => (HO_0.out.1 k_ e_))); have HO937 := aM (ho); clear HO_0; clear ho hb hg hat)))
    (go_roundg k1); (case measure => have := HK1.out; omega); (case rel => exact ⟨(y935), (wrap64 (x7_1 - 1)), z4, H', ⟨by have := HK1.out; omega⟩, ⟨by (with_reducible repeat (first | apply Kd.R_alloc | apply Kd.R_drewN | apply Kd.R_drew)); exact HO937.out⟩, ⟨by repeat (first | (with_reducible first | exact HK.out | apply Kept.alloc | apply Kept.drewN | apply Kept.drew) | exact HK.out)⟩, ⟨bel0⟩⟩)
def bus_plain.l0 : Nat → List Int → List Int → Int → Int → Option (List Int)
  | 0, _, _, _, _ => none
  | k + 1, x3, x19, x20, x21 => if x21 < x20 then (if 0 ≤ x21 then (if x21 < (x19.length : Int) then ((bus_appended.f k x3 (rd x19 x21) 8).bind fun t955 => (bus_plain.l0 k t955 x19 x20 (wrap64 (x21 + 1)))) else (none)) else (none)) else ((bus_check.f k x3).bind fun t958 => ((bus_appended.f k x3 t958 15).bind fun t959 => (some t959)))
def bus_plain.f (k : Nat) (a0_0 : Int) (l0_1 : List Int) : Option (List Int) := (bus_appended.f k (([0] : List Int)) a0_0 11).bind fun t942 => ((some (([0, 0, 0] : List Int) : List Int)).bind fun y945 => (if t942.length + y945.length < 17592186044416 then ((bus_appended.f k (t942 ++ y945) (l0_1.length : Int) 4).bind fun t951 => (bus_plain.l0 k t951 l0_1 (l0_1.length : Int) 0)) else (none)))
set_option maxHeartbeats 8000000 in
set_option maxRecDepth 100000 in
theorem bus_plain.calls (k : Nat) (a0_0 : Int) (A0_1 : Option Addr) (c0_1 : Nat) (l0_1 : List Int) (r : List Int) (w : World) (hr0_1 : Kd.C (Kd.int .i64) w A0_1 l0_1.length l0_1) (hc0_1 : l0_1.length ≤ c0_1) (h : bus_plain.f k a0_0 l0_1 = some r) :
    Calls Tryd.prog 91 #[.agg #[.int .i64 a0_0, .slice A0_1 l0_1.length c0_1]] w fun e w' => ∃ v0_ : Value, e = .returned (v0_) ∧ Kd.R (Kd.int .i64) 3 w' w.heap.size (fun _ => True) v0_ r ∧ Below w.heap.size w w' := by
  have hu24 := Tryd.underlying24; have HR0_1 := aM hr0_1; have HC0_1 := aM hc0_1; clear hr0_1 hc0_1; (have HB := aM (Below.refl w.heap.size w)); (have H : ((bus_appended.f k (([0] : List Int)) a0_0 11).bind fun t942 => ((some (([0, 0, 0] : List Int) : List Int)).bind fun y945 => (if t942.length + y945.length < 17592186044416 then ((bus_appended.f k (t942 ++ y945) (l0_1.length : Int) 4).bind fun t951 => (bus_plain.l0 k t951 l0_1 (l0_1.length : Int) 0)) else (none)))) = some r := h); clear h; (obtain ⟨y939, hy939⟩ : ∃ y_ : List Int, y_ = (([0] : List Int)) := ⟨_, rfl⟩); (replace H : ((bus_appended.f k y939 a0_0 11).bind fun t942 => ((some (([0, 0, 0] : List Int) : List Int)).bind fun y945 => (if t942.length + y945.length < 17592186044416 then ((bus_appended.f k (t942 ++ y945) (l0_1.length : Int) 4).bind fun t951 => (bus_plain.l0 k t951 l0_1 (l0_1.length : Int) 0)) else (none)))) = some r := by first | (rw [hy939]; with_reducible exact H) | (have H2_ := (Option.bind_some _ _).symm.trans H; rw [hy939]; with_reducible exact H2_) | (have H2_ := (Option.bind_some _ _).symm.trans H; with_reducible exact H2_) | with_reducible exact H | (rw [hy939]; exact H) | exact H); have Ny939 := aM hy939; clear hy939; (replace H := oB H); obtain ⟨t942, A20, H⟩ := H; (replace H : ((some (([0, 0, 0] : List Int) : List Int)).bind fun y945 => (if t942.length + y945.length < 17592186044416 then ((bus_appended.f k (t942 ++ y945) (l0_1.length : Int) 4).bind fun t951 => (bus_plain.l0 k t951 l0_1 (l0_1.length : Int) 0)) else (none))) = some r := H)
  have A2 := aM A20; clear A20; (obtain ⟨y945, hy945⟩ : ∃ y_ : List Int, y_ = (([0, 0, 0] : List Int)) := ⟨_, rfl⟩); (replace H : (if t942.length + y945.length < 17592186044416 then ((bus_appended.f k (t942 ++ y945) (l0_1.length : Int) 4).bind fun t951 => (bus_plain.l0 k t951 l0_1 (l0_1.length : Int) 0)) else (none)) = some r := by first | (rw [hy945]; with_reducible exact H) | (have H2_ := (Option.bind_some _ _).symm.trans H; rw [hy945]; with_reducible exact H2_) | (have H2_ := (Option.bind_some _ _).symm.trans H; with_reducible exact H2_) | with_reducible exact H | (rw [hy945]; exact H) | exact H); have Ny945 := aM hy945; clear hy945; by_cases c3 : t942.length + y945.length < 17592186044416; rotate_left
  · rw [if_neg c3] at H; (exact absurd H (by simp))
  rw [if_pos c3] at H; have LMc3 := aM c3; clear c3; (obtain ⟨y948, hy948⟩ : ∃ y_ : List Int, y_ = (t942 ++ y945) := ⟨_, rfl⟩); (replace H : ((bus_appended.f k y948 (l0_1.length : Int) 4).bind fun t951 => (bus_plain.l0 k t951 l0_1 (l0_1.length : Int) 0)) = some r := by first | (rw [hy948]; with_reducible exact H) | (have H2_ := (Option.bind_some _ _).symm.trans H; rw [hy948]; with_reducible exact H2_) | (have H2_ := (Option.bind_some _ _).symm.trans H; with_reducible exact H2_) | with_reducible exact H | (rw [hy948]; exact H) | exact H); have Ny948 := aM hy948; clear hy948; (replace H := oB H); obtain ⟨t951, A40, H⟩ := H; (replace H : (bus_plain.l0 k t951 l0_1 (l0_1.length : Int) 0) = some r := H); have A4 := aM A40; clear A40; have H' := aM H; clear H; (go_enter Tryd.func91, Tryd.ntmps91); (go_wp2_with (first | ((with_reducible refine gate_dst (N := 1) rfl ?_); refine box_event ?hg (N := 1) ?hd (cs := #[.int .i64 a0_0, .slice A0_1 l0_1.length c0_1]) (t := 24) ?hr ?_; (case hd => rfl); (case hg => rfl); (case hr => first | (go_simp; done) | (go_simp; rfl)); intro gb938 hg w5 hbox hb; have BK938 := aM (hbox); have GW938 := aM (geB hg : w.heap.size ≤ gb938); have GE938 := aM (geB hg : w.heap.size ≤ gb938); replace HB := aM (bSt bel0 hb); clear hb hbox hg) | ((with_reducible refine gate_dst (N := 6) rfl ?_); refine Kd.R_lit (Kd.int .i64) _ 3 ?hg (N := 6) ?hd (xs := ([0] : List Int)) (inner := [.int .i64 0]) (ok := fun _ => True) (okp := fun _ => True) ?hr ?hp (fun _ hk => hk) trivial (Below.refl _ _) (Nat.le_refl _) (by simp) ?_; (case hd => rfl); (case hg => rfl); (case hr => first | (go_simp; done) | (go_simp; rfl)); (case hp => exact (Reps.one (show Kd.M (Kd.int .i64) _ _ _ 0 [.int .i64 0] from rfl) (Reps.none _ _))); intro v940 w6 ho7 hb hg_ hnew_; clear hg_ hnew_; (first | rw [← Ny939.out] at ho7 | (simp only [Int.reduceToNat] at ho7; rw [← Ny939.out] at ho7)); have HO941 := aM (Kd.R_lower ho7 (bSz bel0)); replace BK938 := aM (blkB BK938.out hb); replace HB := aM (bSt bel0 hb); clear hb ho7; obtain ⟨hcz8_0, hcz8_1, hfz8_0, hfz8_1⟩ := bk2 BK938.out; obtain ⟨Ao9, co9, eo9⟩ := Kd.R_slice HO941.out; subst eo9) | ((with_reducible refine gate_callee (f := 118) rfl ?_); refine goesL_ (some 9) rfl rfl Tryd.func118 z5 rfl #[.slice Ao9 y939.length co9, .int .i64 a0_0, .int .i64 11] rfl z1 ?_; (with_reducible refine (bus_appended.calls k (fun k_ => some k_ = (.slice Ao9 y939.length co9 : Value).ownBlock) (.slice Ao9 y939.length co9) y939 a0_0 11 t942 w _ ?side1 ?side2 A2.out).mono ?_); (case side1 => repeat (first | (with_reducible first | exact HB.out | apply bAl | apply pBd | apply bD1 | refine below_set ?_ GE938.out) | exact HB.out)); (case side2 => exact Kd.R_tight rfl HO941.out); rintro e w10 ⟨v943, rfl, ho0, hb, hkp⟩; refine ⟨_, rfl, ?_⟩; replace BK938 := aM (blk_kept (blkA BK938.out) hkp (fun hs_ => (fun e_ => (Kd.R_ne HO941.out BK938.out z9) e_) hs_)); have HO944 := aM (Kd.R_mono (ok' := fun k_ => True) ho0 (fun k_ hk_ => trivial)); replace HB := aM (hb); clear HO941; (try clear hb); (try clear hkp); (try clear ho0)) | ((with_reducible refine gate_dst (N := 11) rfl ?_); refine Kd.R_lit (Kd.int .i64) _ 3 ?hg (N := 11) ?hd (xs := ([0, 0, 0] : List Int)) (inner := [.int .i64 0, .int .i64 0, .int .i64 0]) (ok := fun _ => True) (okp := fun _ => True) ?hr ?hp (fun _ hk => hk) trivial (Below.refl _ _) (Nat.le_refl _) (by simp) ?_; (case hd => rfl); (case hg => rfl); (case hr => first | (go_simp; done) | (go_simp; rfl)); (case hp => exact (Reps.one (show Kd.M (Kd.int .i64) _ _ _ 0 [.int .i64 0] from rfl) (Reps.one (show Kd.M (Kd.int .i64) _ _ _ 0 [.int .i64 0] from rfl) (Reps.one (show Kd.M (Kd.int .i64) _ _ _ 0 [.int .i64 0] from rfl) (Reps.none _ _))))); intro v946 w11 ho12 hb hg_ hnew_; clear hg_ hnew_; (first | rw [← Ny945.out] at ho12 | (simp only [Int.reduceToNat] at ho12; rw [← Ny945.out] at ho12)); have HO947 := aM (Kd.R_lower (Kd.R_new' ho12 (Kd.R_lt (rA HO944.out))) (bSz bel0)); replace HO944 := aM (Kd.R_elder' (rA HO944.out) (Kd.R_base ho12) hb); replace BK938 := aM (blkB BK938.out hb); replace HB := aM (bSt bel0 hb); clear hb ho12; obtain ⟨Ao14, co14, eo14⟩ := Kd.R_slice HO947.out; subst eo14) | ((with_reducible refine gate_builtin (b := .append) (xs := #[.tmp 10, .tmp 11]) rfl ?_); at_builtin; refine Kd.R_append_rows (Kd.int .i64) (w0 := w) w.heap.size rfl (.tmp 10) (.tmp 11) 22 3 (.int .i64 0) 8 rfl Tryd.underlying22 info3 rfl z9 z3 v943 t942 y945 _ _ _ (fun k_ => some k_ ≠ (.slice Ao14 y945.length co14 : Value).ownBlock) (fun _ => False) rfl rfl ?aO ?aR (fun _ _ h => h) (fun _ h => h.elim) ?aF ?aB ?aS ?aL ?_; (case aR => exact cA (Kd.R_reads' HO947.out).2.2); (case aB => exact bel0); (case aF => exact (fun k_ hk => Kd.fresh' (Kd.R_lt (rA HO947.out)) k_ hk)); (case aO => exact (by (with_reducible repeat (first | apply Kd.R_alloc | apply Kd.R_drewN | apply Kd.R_drew)); exact Kd.R_mono HO944.out (fun _ hk => hk.2))); (case aS => exact (bSz bel0)); (case aL => have := LMc3.out; omega); intro v949 w13 ho hb hg hat; rw [← Ny948.out] at ho; replace BK938 := aM (blk_grown (g := gb938) (o := .cells #[.int .i64 a0_0, .slice A0_1 l0_1.length c0_1] 24 (0, 0)) (blkA BK938.out) hg (Kd.R_ne HO944.out BK938.out z9)); replace HO947 := aM (Kd.R_after (ok := (fun _ => True)) (rA HO947.out) hg hat); replace HB := aM (hb); have HO950 := aM (ho); clear HO944; clear ho hb hg hat; obtain ⟨hcz15_0, hcz15_1, hfz15_0, hfz15_1⟩ := bk2 BK938.out; obtain ⟨Ao16, co16, eo16⟩ := Kd.R_slice HO950.out; subst eo16) | ((with_reducible refine gate_callee (f := 118) rfl ?_); refine goesL_ (some 17) rfl rfl Tryd.func118 z5 rfl #[.slice Ao16 y948.length co16, .int .i64 (l0_1.length : Int), .int .i64 4] rfl z1 ?_; (with_reducible refine (bus_appended.calls k (fun k_ => some k_ = (.slice Ao16 y948.length co16 : Value).ownBlock) (.slice Ao16 y948.length co16) y948 (l0_1.length : Int) 4 t951 w _ ?side1 ?side2 A4.out).mono ?_); (case side1 => repeat (first | (with_reducible first | exact HB.out | apply bAl | apply pBd | apply bD1 | refine below_set ?_ GE938.out) | exact HB.out)); (case side2 => exact Kd.R_tight rfl HO950.out); rintro e w17 ⟨v952, rfl, ho0, hb, hkp⟩; refine ⟨_, rfl, ?_⟩; replace BK938 := aM (blk_kept (blkA BK938.out) hkp (fun hs_ => (fun e_ => (Kd.R_ne HO950.out BK938.out z9) e_) hs_)); have HO953 := aM (Kd.R_mono (ok' := fun k_ => some k_ ≠ (.slice Ao14 y945.length co14 : Value).ownBlock) ho0 (fun k_ hk_ => Or.elim hk_ (fun hs_ => fun e_ => (((HO947.out).1 k_ e_.symm).2) hs_) (fun hn_ => (Kd.fresh' (Kd.R_lt (rA HO947.out)) k_ hn_)))); replace HO947 := aM (Kd.R_mono (ok' := fun k_ => some k_ ≠ (v952 : Value).ownBlock) (Kd.R_keptB (HO947.out) hkp (fun k_ hk_ hs_ => (hk_.2) hs_)) (fun k_ hk_ => fun e_ => Or.elim (ho0.1 k_ e_.symm) (fun hs_ => hk_.2.1 hs_) (fun hn_ => Nat.not_le.2 hk_.2.2 hn_))); replace HB := aM (hb); clear HO950; (try clear hb); (try clear hkp); (try clear ho0); obtain ⟨hcz18_0, hcz18_1, hfz18_0, hfz18_1⟩ := bk2 BK938.out)))
  (go_loopg [3, 21] k (fun kq v3 v21 w' => ∃ (x3_1 : List Int) (x21_1 : Int), v21 = .int .i64 x21_1 ∧ Aside0 (bus_plain.l0 kq x3_1 l0_1 (l0_1.length : Int) x21_1 = some r) ∧ Aside0 (kq ≤ k) ∧ Aside0 (Kd.R (Kd.int .i64) 3 w' w.heap.size (fun _ => True) v3 x3_1) ∧ Aside0 (w'.heap[gb938]? = some (.cells #[.int .i64 a0_0, (.slice A0_1 l0_1.length c0_1)] 24 (0, 0))) ∧ Aside0 (Below w.heap.size w w'))); (case atStart => exact ⟨(t951), (0), z4, H', ⟨Nat.le_refl _⟩, ⟨by (with_reducible repeat (first | apply Kd.R_alloc | apply Kd.R_drewN | apply Kd.R_drew)); exact Kd.R_mono HO953.out (fun _ hk => trivial)⟩, ⟨by (with_reducible repeat (first | refine kDn ?_ _ | refine kDr ?_ | refine kAl ?_ _)); exact BK938.out⟩, ⟨bel0⟩⟩)
  case round =>
   clear H'; (try clear c1); (try clear p2); (try clear c3); (try clear c9); (try clear c11); (try clear hcz15_0); (try clear hcz15_1); (try clear hcz18_0); (try clear hcz18_1); (try clear hcz8_0); (try clear hcz8_1); (try clear hfz15_0); (try clear hfz15_1); (try clear hfz18_0); (try clear hfz18_1); (try clear hfz8_0); (try clear hfz8_1); obtain ⟨x3_1, x21_1, rfl, HA, HK1, HO_3, BK938, HB⟩ := hrel
   cases gk with
   | zero => exact absurd HA.out (by simp [bus_plain.l0])
   | succ k1 =>
    have H := HA.out; clear HA; simp only [bus_plain.l0] at H; by_cases c19 : x21_1 < (l0_1.length : Int); rotate_left
    · rw [if_neg c19] at H; (have c19b0 : decide (x21_1 < (l0_1.length : Int)) = false := dF c19); clear c19; (replace H := oB H); obtain ⟨t958, A250, H⟩ := H; (replace H : ((bus_appended.f k1 x3_1 t958 15).bind fun t959 => (some t959)) = some r := H); have A25 := aM A250; clear A250; (replace H := oB H); obtain ⟨t959, A260, H⟩ := H; (replace H : (some t959) = some r := H); have A26 := aM A260; clear A260; (obtain rfl := sI H); (obtain ⟨Ao27, co27, eo27⟩ := Kd.R_slice HO_3.out); subst eo27; (go_wp2_with (first | ((with_reducible refine gate_callee (f := 62) rfl ?_); refine goesL_ (some 31) rfl rfl Tryd.func62 z5 rfl #[.slice Ao27 x3_1.length co27] rfl z1 ?_; (with_reducible refine (bus_check.calls k1 _ _ x3_1 t958 _ ?side1 ?side2 A25.out).mono ?_); (case side1 => exact cA (Kd.R_reads' HO_3.out).2.2); (case side2 => exact (Kd.R_reads' HO_3.out).2.1); rintro e w' ⟨rfl, ⟨nd, rfl⟩⟩; refine ⟨_, rfl, ?_⟩) | ((with_reducible refine gate_callee (f := 118) rfl ?_); refine goesL_ (some 32) rfl rfl Tryd.func118 z5 rfl #[.slice Ao27 x3_1.length co27, .int .i64 t958, .int .i64 15] rfl z1 ?_; (with_reducible refine (bus_appended.calls k1 (fun k_ => some k_ = (.slice Ao27 x3_1.length co27 : Value).ownBlock) (.slice Ao27 x3_1.length co27) x3_1 t958 15 t959 w _ ?side1 ?side2 A26.out).mono ?_); (case side1 => repeat (first | (with_reducible first | exact HB.out | apply bAl | apply pBd | apply bD1 | refine below_set ?_ GE938.out) | exact HB.out)); (case side2 => exact Kd.R_tight rfl HO_3.out); rintro e w28 ⟨v960, rfl, ho0, hb, hkp⟩; refine ⟨_, rfl, ?_⟩; replace BK938 := aM (blk_kept (blkA BK938.out) hkp (fun hs_ => (fun e_ => (Kd.R_ne HO_3.out BK938.out z9) e_) hs_)); have HO961 := aM (Kd.R_mono (ok' := fun k_ => True) ho0 (fun k_ hk_ => trivial)); replace HB := aM (hb); clear HO_3; (try clear hb); (try clear hkp); (try clear ho0))))
      go_ret; (exact ⟨_, by first | rfl | (simp [errW_none, errW_some] <;> rfl) | (simp [*, errW_none, errW_some] <;> rfl), rA HO961.out, bel0⟩)
    rw [if_pos c19] at H; (have c19b0 : decide (x21_1 < (l0_1.length : Int)) = true := dT c19); clear c19; by_cases c20 : 0 ≤ x21_1; rotate_left
    · rw [if_neg c20] at H; (exact absurd H (by simp))
    rw [if_pos c20] at H; (have c20b0 : decide (0 ≤ x21_1) = true := dT c20); clear c20; by_cases c21 : x21_1 < (l0_1.length : Int); rotate_left
    · rw [if_neg c21] at H; (exact absurd H (by simp))
    rw [if_pos c21] at H; (have c21b0 : decide (x21_1 < (l0_1.length : Int)) = true := dT c21); clear c21; (replace H := oB H); obtain ⟨t955, A220, H⟩ := H; (replace H : (bus_plain.l0 k1 t955 l0_1 (l0_1.length : Int) (wrap64 (x21_1 + 1))) = some r := H); have A22 := aM A220; clear A220; have H' := aM H; clear H; (have p954 : 0 ≤ (x21_1 : Int) := oD z2); (have q954 : x21_1 < (l0_1.length : Int) := oD z2); (obtain ⟨ad954, e954, hx954_0⟩ := Kd.at_int HR0_1.out x21_1 p954 q954); cases e954; (replace hx954_0 := (HB.out.cell (World.block_lt_of_cell? w _ hx954_0)).trans hx954_0); (replace p954 := eq_true p954); (replace q954 := eq_true q954); (obtain ⟨Ao23, co23, eo23⟩ := Kd.R_slice HO_3.out); subst eo23; (go_wp2_with (first | ((with_reducible refine gate_callee (f := 118) rfl ?_); refine goesL_ (some 27) rfl rfl Tryd.func118 z5 rfl #[.slice Ao23 x3_1.length co23, .int .i64 (rd l0_1 x21_1), .int .i64 8] rfl z1 ?_; (with_reducible refine (bus_appended.calls k1 (fun k_ => some k_ = (.slice Ao23 x3_1.length co23 : Value).ownBlock) (.slice Ao23 x3_1.length co23) x3_1 (rd l0_1 x21_1) 8 t955 w _ ?side1 ?side2 A22.out).mono ?_); (case side1 => repeat (first | (with_reducible first | exact HB.out | apply bAl | apply pBd | apply bD1 | refine below_set ?_ GE938.out) | exact HB.out)); (case side2 => exact Kd.R_tight rfl HO_3.out); rintro e w24 ⟨v956, rfl, ho0, hb, hkp⟩; refine ⟨_, rfl, ?_⟩; replace BK938 := aM (blk_kept (blkA BK938.out) hkp (fun hs_ => (fun e_ => (Kd.R_ne HO_3.out BK938.out z9) e_) hs_)); have HO957 := aM (Kd.R_mono (ok' := fun k_ => True) ho0 (fun k_ hk_ => trivial)); replace HB := aM (hb); clear HO_3; (try clear hb); (try clear hkp); (try clear ho0))))
    (go_roundg k1); (case measure => have := HK1.out; omega); (case rel => exact ⟨(t955), (wrap64 (x21_1 + 1)), z4, H', ⟨by have := HK1.out; omega⟩, ⟨by (with_reducible repeat (first | apply Kd.R_alloc | apply Kd.R_drewN | apply Kd.R_drew)); exact HO957.out⟩, ⟨by (with_reducible repeat (first | refine kDn ?_ _ | refine kDr ?_ | refine kAl ?_ _)); exact BK938.out⟩, ⟨bel0⟩⟩)
def IsS78 (w0 W : World) (g : Nat) (f0 : Int) (f1 : Int) : Prop := W.heap[g]? = some (.cells #[.int .i64 f0, .int .i64 f1] 78 (0, 0)) ∧ w0.heap.size ≤ g
theorem IsS78.grown {w0 W : World} {g : Nat} {f0 : Int} {f1 : Int} {W1 : World} {row : Option Nat} (h : IsS78 w0 W g f0 f1) (hw : W.grownBy W1 row) (hne : some g ≠ row) : IsS78 w0 W1 g f0 f1 := by
  obtain ⟨hb, hg⟩ := h
  exact ⟨blk_grown hb hw hne, hg⟩
theorem IsS78.below {w0 W : World} {g : Nat} {f0 : Int} {f1 : Int} {W1 : World} (h : IsS78 w0 W g f0 f1) (hw : Below W.heap.size W W1) : IsS78 w0 W1 g f0 f1 := h.grown (grown_of_below hw none) (by simp)
theorem IsS78.apart {w0 W : World} {g : Nat} {f0 : Int} {f1 : Int} {α : Type} {d : Kd α} {e : Nat} {base : Nat} {ok : Nat → Prop} {v : Value} {xs : List α} (h : IsS78 w0 W g f0 f1) (ho : d.R e W base ok v xs) (ht : ∀ q, q ∈ e :: d.E → q ≠ 78) : d.R e W base (fun k => ok k ∧ k ≠ g) v xs := by
  obtain ⟨hb, hg⟩ := h
  exact Kd.R_types ho hb ht
theorem IsS78.own_ne {w0 W : World} {g : Nat} {f0 : Int} {f1 : Int} {α : Type} {d : Kd α} {e : Nat} {base : Nat} {ok : Nat → Prop} {v : Value} {xs : List α} (h : IsS78 w0 W g f0 f1) (ho : d.R e W base ok v xs) (ht : e ≠ 78) : some g ≠ v.ownBlock := by
  obtain ⟨hb, hg⟩ := h
  exact Kd.R_ne ho hb ht
theorem IsS78.ge {w0 W : World} {g : Nat} {f0 : Int} {f1 : Int} (h : IsS78 w0 W g f0 f1) : w0.heap.size ≤ g := by
  obtain ⟨hb, hg⟩ := h
  exact hg
theorem cellS78_0 {W : World} {g : Nat} {f0 : Int} {f1 : Int} (h : W.heap[g]? = some (.cells #[.int .i64 f0, .int .i64 f1] 78 (0, 0))) : W.cell? ⟨g, 0, none⟩ = some (.int .i64 f0) := (bCl h 0).trans rfl
theorem IsS78.set_0 {w0 W : World} {g : Nat} {f0 : Int} {f1 : Int} (h : IsS78 w0 W g f0 f1) (x : Int) : IsS78 w0 (W.setCell ⟨g, 0, none⟩ (.int .i64 x)) g x f1 := by
  obtain ⟨hb, hg⟩ := h
  exact ⟨by simpa using blk_set hb 0 (.int .i64 x), hg⟩
theorem cellS78_1 {W : World} {g : Nat} {f0 : Int} {f1 : Int} (h : W.heap[g]? = some (.cells #[.int .i64 f0, .int .i64 f1] 78 (0, 0))) : W.cell? ⟨g, 1, none⟩ = some (.int .i64 f1) := (bCl h 1).trans rfl
theorem IsS78.set_1 {w0 W : World} {g : Nat} {f0 : Int} {f1 : Int} (h : IsS78 w0 W g f0 f1) (x : Int) : IsS78 w0 (W.setCell ⟨g, 1, none⟩ (.int .i64 x)) g f0 x := by
  obtain ⟨hb, hg⟩ := h
  exact ⟨by simpa using blk_set hb 1 (.int .i64 x), hg⟩
theorem IsS78.new (w0 W : World) (f0 : Int) (f1 : Int) (hB : Below w0.heap.size w0 W) : IsS78 w0 (W.alloc (.cells #[.int .i64 f0, .int .i64 f1] 78)) W.heap.size f0 f1 := ⟨by simpa using heap_alloc_new W _, hB.size⟩
def bus_row_put.f (s0_0 : Int) (s0_1 : Int) (a1 : Int) : Option (Int × Int) := if s0_1 > 0 then (if s0_0 = a1 then (some (s0_0, wrap64 (s0_1 + 1))) else (some (a1, 1))) else (some (a1, 1))
set_option maxHeartbeats 8000000 in
set_option maxRecDepth 100000 in
theorem bus_row_put.calls (g : Nat) (s0_0 : Int) (s0_1 : Int) (a1 : Int) (r1 : Int) (r2 : Int) (w0 w : World) (hI : IsS78 w0 w g s0_0 s0_1) (hB : Below w0.heap.size w0 w) (h : bus_row_put.f s0_0 s0_1 a1 = some (r1, r2)) :
    Calls Tryd.prog 92 #[.pointer (some ⟨g, 0, none⟩), .int .i64 a1] w fun e w' => e = .returned (.tuple #[]) ∧ IsS78 w0 w' g r1 r2 ∧ Below w0.heap.size w0 w' ∧ KeepBut w w' g none := by
  have HI0 := aM hI; (have HK := aM (KeepBut.refl w g none)); have HL := aM hB.size; clear hI; have HW0 := aM hB.size; have HB := aM hB; clear hB; (have H : (if s0_1 > 0 then (if s0_0 = a1 then (some (s0_0, wrap64 (s0_1 + 1))) else (some (a1, 1))) else (some (a1, 1))) = some (r1, r2) := h); clear h; by_cases c3 : s0_1 > 0; rotate_left
  · rw [if_neg c3] at H; (have c3b0 : decide (0 < s0_1) = false := dF c3); clear c3; simp only [Option.some.injEq, Prod.mk.injEq] at H; obtain ⟨rfl, rfl⟩ := H; obtain ⟨HGz7, hgz7⟩ := HI0.out; (have hcz7_0 := cellS78_0 HGz7); (have hcz7_1 := cellS78_1 HGz7); (have hfz7_0 := bFr HGz7 0); (have hfz7_1 := bFr HGz7 1); clear HGz7 hgz7; (go_enter Tryd.func92, Tryd.ntmps92); go_wp2; (first | go_end0 | ((try simp only [Exit.inBlock, Exit.then]); refine bodyPost_ret (results_none rfl _ _ _) rfl ?_)); (exact ⟨by first | rfl | (simp [errW_none, errW_some] <;> rfl) | (simp [*, errW_none, errW_some] <;> rfl), by repeat (first | (with_reducible first | exact HI0.out | apply IsS78.alloc | apply IsS78.drewN | apply IsS78.drew | apply IsS78.set_0 | apply IsS78.set_1) | exact HI0.out), by repeat (first | (with_reducible first | exact HB.out | apply bAl | apply pBd | apply bD1 | refine below_set ?_ (IsS78.ge HI0.out)) | exact HB.out), by repeat (first | (with_reducible first | exact HK.out | apply KeepBut.set_ | apply keep_drewN | apply keep_drew | apply keep_alloc) | exact HK.out)⟩)
  rw [if_pos c3] at H; (have c3b0 : decide (0 < s0_1) = true := dT c3); clear c3; by_cases c4 : s0_0 = a1; rotate_left
  · rw [if_neg c4] at H; (have c4b0 : (s0_0 == a1) = false := beq_eq_false_iff_ne.mpr c4); (have c4b1 : (s0_0 != a1) = true := bne_iff_ne.mpr c4); simp only [Option.some.injEq, Prod.mk.injEq] at H; obtain ⟨rfl, rfl⟩ := H; obtain ⟨HGz6, hgz6⟩ := HI0.out; (have hcz6_0 := cellS78_0 HGz6); (have hcz6_1 := cellS78_1 HGz6); (have hfz6_0 := bFr HGz6 0); (have hfz6_1 := bFr HGz6 1); clear HGz6 hgz6; (go_enter Tryd.func92, Tryd.ntmps92); go_wp2; (first | go_end0 | ((try simp only [Exit.inBlock, Exit.then]); refine bodyPost_ret (results_none rfl _ _ _) rfl ?_)); (exact ⟨by first | rfl | (simp [errW_none, errW_some] <;> rfl) | (simp [*, errW_none, errW_some] <;> rfl), by repeat (first | (with_reducible first | exact HI0.out | apply IsS78.alloc | apply IsS78.drewN | apply IsS78.drew | apply IsS78.set_0 | apply IsS78.set_1) | exact HI0.out), by repeat (first | (with_reducible first | exact HB.out | apply bAl | apply pBd | apply bD1 | refine below_set ?_ (IsS78.ge HI0.out)) | exact HB.out), by repeat (first | (with_reducible first | exact HK.out | apply KeepBut.set_ | apply keep_drewN | apply keep_drew | apply keep_alloc) | exact HK.out)⟩)
  rw [if_pos c4] at H; (have c4b0 : (s0_0 == a1) = true := beq_iff_eq.mpr c4); (have c4b1 : (s0_0 != a1) = false := bne_eq_false_iff_eq.mpr c4); clear c4; simp only [Option.some.injEq, Prod.mk.injEq] at H; obtain ⟨rfl, rfl⟩ := H; obtain ⟨HGz5, hgz5⟩ := HI0.out; (have hcz5_0 := cellS78_0 HGz5); (have hcz5_1 := cellS78_1 HGz5); (have hfz5_0 := bFr HGz5 0); (have hfz5_1 := bFr HGz5 1); clear HGz5 hgz5; (go_enter Tryd.func92, Tryd.ntmps92); go_wp2; (first | go_end0 | ((try simp only [Exit.inBlock, Exit.then]); refine bodyPost_ret (results_none rfl _ _ _) rfl ?_)); (exact ⟨by first | rfl | (simp [errW_none, errW_some] <;> rfl) | (simp [*, errW_none, errW_some] <;> rfl), by repeat (first | (with_reducible first | exact HI0.out | apply IsS78.alloc | apply IsS78.drewN | apply IsS78.drew | apply IsS78.set_0 | apply IsS78.set_1) | exact HI0.out), by repeat (first | (with_reducible first | exact HB.out | apply bAl | apply pBd | apply bD1 | refine below_set ?_ (IsS78.ge HI0.out)) | exact HB.out), by repeat (first | (with_reducible first | exact HK.out | apply KeepBut.set_ | apply keep_drewN | apply keep_drew | apply keep_alloc) | exact HK.out)⟩)
def bus_row_full.f (s0_0 : Int) (s0_1 : Int) : Option (Bool × Int × Int) := some ((s0_1 == 5), s0_0, s0_1)
set_option maxHeartbeats 8000000 in
set_option maxRecDepth 100000 in
theorem bus_row_full.calls (g : Nat) (s0_0 : Int) (s0_1 : Int) (r1 : Bool) (r2 : Int) (r3 : Int) (w0 w : World) (hI : IsS78 w0 w g s0_0 s0_1) (hB : Below w0.heap.size w0 w) (h : bus_row_full.f s0_0 s0_1 = some (r1, r2, r3)) :
    Calls Tryd.prog 50 #[.pointer (some ⟨g, 0, none⟩)] w fun e w' => e = .returned (.bool r1) ∧ IsS78 w0 w' g r2 r3 ∧ Below w0.heap.size w0 w' ∧ KeepBut w w' g none := by
  have HI0 := aM hI; (have HK := aM (KeepBut.refl w g none)); have HL := aM hB.size; clear hI; have HW0 := aM hB.size; have HB := aM hB; clear hB; (have H : (some ((s0_1 == 5), s0_0, s0_1)) = some (r1, r2, r3) := h); clear h; simp only [Option.some.injEq, Prod.mk.injEq] at H; obtain ⟨rfl, rfl, rfl⟩ := H; obtain ⟨HGz2, hgz2⟩ := HI0.out; (have hcz2_0 := cellS78_0 HGz2); (have hcz2_1 := cellS78_1 HGz2); (have hfz2_0 := bFr HGz2 0); (have hfz2_1 := bFr HGz2 1); clear HGz2 hgz2; (go_enter Tryd.func50, Tryd.ntmps50); go_wp2; go_ret; (exact ⟨by first | rfl | (simp [errW_none, errW_some] <;> rfl) | (simp [*, errW_none, errW_some] <;> rfl), by repeat (first | (with_reducible first | exact HI0.out | apply IsS78.alloc | apply IsS78.drewN | apply IsS78.drew | apply IsS78.set_0 | apply IsS78.set_1) | exact HI0.out), by repeat (first | (with_reducible first | exact HB.out | apply bAl | apply pBd | apply bD1 | refine below_set ?_ (IsS78.ge HI0.out)) | exact HB.out), by repeat (first | (with_reducible first | exact HK.out | apply KeepBut.set_ | apply keep_drewN | apply keep_drew | apply keep_alloc) | exact HK.out)⟩)
def bus_number.l0 : Nat → Int → List Int → Int → Int → Option (Int)
  | 0, _, _, _, _ => none
  | k + 1, x3, x6, x7, x8 => if x8 < x7 then (if 0 ≤ x8 then (if x8 < (x6.length : Int) then (bus_number.l0 k (wrap64 ((wrap64 (2 * x3)) + (rd x6 x8))) x6 x7 (wrap64 (x8 + 1))) else (none)) else (none)) else (some x3)
def bus_number.f (k : Nat) (l0 : List Int) : Option (Int) := bus_number.l0 k 0 l0 (l0.length : Int) 0
set_option maxHeartbeats 8000000 in
set_option maxRecDepth 100000 in
theorem bus_number.calls (k : Nat) (A0 : Option Addr) (c0 : Nat) (l0 : List Int) (r : Int) (w : World) (hr0 : Kd.C (Kd.int .i64) w A0 l0.length l0) (hc0 : l0.length ≤ c0) (h : bus_number.f k l0 = some r) :
    Calls Tryd.prog 51 #[.slice A0 l0.length c0] w fun e w' => e = .returned (.int .i64 r) ∧ Drawn0 w w' := by
  have HR0 := aM hr0; have HC0 := aM hc0; clear hr0 hc0; (have H : (bus_number.l0 k 0 l0 (l0.length : Int) 0) = some r := h); clear h; have H' := aM H; clear H; (go_enter Tryd.func51, Tryd.ntmps51); go_wp2; (go_loopg [3, 8] k (fun kq v3 v8 w' => ∃ (x3_1 : Int) (x8_1 : Int), v3 = .int .i64 x3_1 ∧ v8 = .int .i64 x8_1 ∧ Aside0 (bus_number.l0 kq x3_1 l0 (l0.length : Int) x8_1 = some r) ∧ Aside0 (kq ≤ k) ∧ Drawn0 w w')); (case atStart => exact ⟨(0), (0), z4, z4, H', ⟨Nat.le_refl _⟩, by repeat (first | exact Drawn0.refl _ | apply Drawn0.step)⟩)
  case round =>
   clear H'; obtain ⟨x3_1, x8_1, rfl, rfl, HA, HK1, ⟨m1, rfl⟩⟩ := hrel
   cases gk with
   | zero => exact absurd HA.out (by simp [bus_number.l0])
   | succ k1 =>
    have H := HA.out; clear HA; simp only [bus_number.l0] at H; by_cases c2 : x8_1 < (l0.length : Int); rotate_left
    · rw [if_neg c2] at H; (have c2b0 : decide (x8_1 < (l0.length : Int)) = false := dF c2); clear c2; (obtain rfl := sI H); go_wp2; go_ret; (exact ⟨by first | rfl | (simp; done) | (simp [*]; done), by repeat (first | exact Drawn0.refl _ | apply Drawn0.step)⟩)
    rw [if_pos c2] at H; (have c2b0 : decide (x8_1 < (l0.length : Int)) = true := dT c2); clear c2; by_cases c3 : 0 ≤ x8_1; rotate_left
    · rw [if_neg c3] at H; (exact absurd H (by simp))
    rw [if_pos c3] at H; (have c3b0 : decide (0 ≤ x8_1) = true := dT c3); clear c3; by_cases c4 : x8_1 < (l0.length : Int); rotate_left
    · rw [if_neg c4] at H; (exact absurd H (by simp))
    rw [if_pos c4] at H; (have c4b0 : decide (x8_1 < (l0.length : Int)) = true := dT c4); clear c4; have H' := aM H; clear H; (have p962 : 0 ≤ (x8_1 : Int) := oD z2); (have q962 : x8_1 < (l0.length : Int) := oD z2); (obtain ⟨ad962, e962, hx962_0⟩ := Kd.at_int HR0.out x8_1 p962 q962); cases e962; (replace p962 := eq_true p962); (replace q962 := eq_true q962); go_wp2; (go_roundg k1); (case measure => have := HK1.out; omega); (case rel => exact ⟨(wrap64 ((wrap64 (2 * x3_1)) + (rd l0 x8_1))), (wrap64 (x8_1 + 1)), z4, z4, H', ⟨by have := HK1.out; omega⟩, by repeat (first | exact Drawn0.refl _ | apply Drawn0.step)⟩)
def bus_bytesOf.f (k : Nat) (l0 : List Int) : Option (Int) := if (l0.length : Int) < 19 then (some 9) else (if 19 ≤ (l0.length : Int) then ((bus_number.f k ((l0.take 19).drop 15)).bind fun t964 => (some t964)) else (none))
set_option maxHeartbeats 8000000 in
set_option maxRecDepth 100000 in
theorem bus_bytesOf.calls (k : Nat) (A0 : Option Addr) (c0 : Nat) (l0 : List Int) (r : Int) (w : World) (hr0 : Kd.C (Kd.int .i64) w A0 l0.length l0) (hc0 : l0.length ≤ c0) (h : bus_bytesOf.f k l0 = some r) :
    Calls Tryd.prog 48 #[.slice A0 l0.length c0] w fun e w' => e = .returned (.int .i64 r) ∧ Drawn0 w w' := by
  have HR0 := aM hr0; have HC0 := aM hc0; clear hr0 hc0; (have H : (if (l0.length : Int) < 19 then (some 9) else (if 19 ≤ (l0.length : Int) then ((bus_number.f k ((l0.take 19).drop 15)).bind fun t964 => (some t964)) else (none))) = some r := h); clear h; by_cases c2 : (l0.length : Int) < 19
  · rw [if_pos c2] at H; (have c2b0 : decide ((l0.length : Int) < 19) = true := dT c2); (have c2b1 : decide (l0.length < 19) = true := dT z3); clear c2; (obtain rfl := sI H); (go_enter Tryd.func48, Tryd.ntmps48); go_wp2; go_ret; (exact ⟨by first | rfl | (simp; done) | (simp [*]; done), by repeat (first | exact Drawn0.refl _ | apply Drawn0.step)⟩)
  rw [if_neg c2] at H; (have c2b0 : decide ((l0.length : Int) < 19) = false := dF c2); (have c2b1 : decide (l0.length < 19) = false := dF z3); clear c2; by_cases c3 : 19 ≤ (l0.length : Int); rotate_left
  · rw [if_neg c3] at H; (exact absurd H (by simp))
  rw [if_pos c3] at H; (have c3b0 := eq_true c3); (have c3b1 : decide (19 ≤ (l0.length : Int)) = true := dT c3); clear c3; (replace H := oB H); obtain ⟨t964, A40, H⟩ := H; (replace H : (some t964) = some r := H); have A4 := aM A40; clear A40; (obtain rfl := sI H); (obtain ⟨i05, hi05, _, hsz5, _⟩ := info_parts info3); (obtain ⟨A5, hcut5, hA5, hC5⟩ := print_mid_of (P := Tryd.prog) (Value.int .i64) 0 22 3 .i64 .i64 Tryd.underlying22 hi05 hsz5 A0 c0 l0 15 19 z3 (by first | omega | exact oD z2) (oD z2) HC0.out); (have HR963 := aM (Kd.C_of_reads (h1 := fun _ => rfl) (hA5 _ (Kd.reads_of_C HR0.out)))); have HC963 := aM hC5; clear hA5 hC5 hi05 hsz5; (go_enter Tryd.func48, Tryd.ntmps48); (go_wp2_with (first | ((with_reducible refine gate_callee (f := 51) rfl ?_); refine goesL_ (some 8) rfl rfl Tryd.func51 z5 rfl #[.slice A5 ((l0.take 19).drop 15).length (c0 - 15)] rfl (by (try simp only [List.map_toArray, List.map_cons, List.map_nil]); first | done | (rw [show ((l0.take 19).drop 15).length = (19 - 15) from (by rw [List.length_drop, List.length_take]; have h_ : (19 : Int) ≤ (l0.length : Int) := oD z2; omega)] <;> rfl) | rfl | (simp only [List.length_drop, List.length_take]; rfl)) ?_; (with_reducible refine (bus_number.calls k _ _ ((l0.take 19).drop 15) t964 _ ?side1 ?side2 A4.out).mono ?_); (case side1 => repeat (first | exact HR963.out | (with_reducible refine Kd.C_alloc ?_ _) | (with_reducible refine Kd.C_drewN ?_ _) | (with_reducible refine Kd.C_drew ?_))); (case side2 => exact HC963.out); rintro e w' ⟨rfl, ⟨nd, rfl⟩⟩; refine ⟨_, rfl, ?_⟩)))
  go_ret; (exact ⟨by first | rfl | (simp; done) | (simp [*]; done), by repeat (first | exact Drawn0.refl _ | apply Drawn0.step)⟩)
mutual
def bus_due.j0 : Nat → List Int → Int → Bool → Option (Int)
  | 0, _, _, _ => none
  | k + 1, x0, x3, x6 => if x6 = true then (some 0) else (if x3 > 15 then (if x3 < 19 then (if 15 < (x0.length : Int) then (bus_due.j1 k x0 x3 ((rd x0 15) == 1)) else (none)) else (bus_due.j1 k x0 x3 false)) else (bus_due.j1 k x0 x3 false))
def bus_due.j1 : Nat → List Int → Int → Bool → Option (Int)
  | 0, _, _, _ => none
  | k + 1, x0, x3, x17 => if x17 = true then (some 0) else ((bus_bytesOf.f k x0).bind fun t966 => (if x3 ≥ (wrap64 (19 + (wrap64 (8 * t966)))) then ((bus_bytesOf.f k x0).bind fun t967 => (if 0 ≤ (wrap64 (19 + (wrap64 (8 * t967)))) then (if (wrap64 (19 + (wrap64 (8 * t967)))) ≤ (x0.length : Int) then ((bus_check.f k (x0.take ((wrap64 (19 + (wrap64 (8 * t967)))) : Int).toNat)).bind fun t969 => ((bus_bytesOf.f k x0).bind fun t970 => (if 0 ≤ (wrap64 (14 - (wrap64 ((wrap64 (x3 - 19)) - (wrap64 (8 * t970)))))) then (some (Go.bits .and .i64 (shr .i64 t969 (wrap64 (14 - (wrap64 ((wrap64 (x3 - 19)) - (wrap64 (8 * t970))))))) 1)) else (none)))) else (none)) else (none))) else (some (-1))))
end
def bus_due.f (k : Nat) (l0 : List Int) : Option (Int) := if (l0.length : Int) = 0 then (bus_due.j0 k l0 (l0.length : Int) true) else (if (l0.length : Int) ≥ 12 then (bus_due.j0 k l0 (l0.length : Int) (decide ((l0.length : Int) < 15))) else (bus_due.j0 k l0 (l0.length : Int) false))
set_option maxHeartbeats 8000000 in
set_option maxRecDepth 100000 in
theorem bus_due.calls (k : Nat) (A0 : Option Addr) (c0 : Nat) (l0 : List Int) (r : Int) (w : World) (hr0 : Kd.C (Kd.int .i64) w A0 l0.length l0) (hc0 : l0.length ≤ c0) (h : bus_due.f k l0 = some r) :
    Calls Tryd.prog 49 #[.slice A0 l0.length c0] w fun e w' => e = .returned (.int .i64 r) ∧ Drawn0 w w' := by
  have HR0 := aM hr0; have HC0 := aM hc0; clear hr0 hc0; (have H : (if (l0.length : Int) = 0 then (bus_due.j0 k l0 (l0.length : Int) true) else (if (l0.length : Int) ≥ 12 then (bus_due.j0 k l0 (l0.length : Int) (decide ((l0.length : Int) < 15))) else (bus_due.j0 k l0 (l0.length : Int) false))) = some r := h); clear h; have HC2 := aM H; clear H; (go_enter Tryd.func49, Tryd.ntmps49); (go_upto_region 2 with (fail)); (go_cut [6] (fun v6 wc => ∃ (kq : Nat) (x6_1 : Bool), v6 = .bool x6_1 ∧ Aside0 (bus_due.j0 kq l0 (l0.length : Int) x6_1 = some r) ∧ Aside0 (kq ≤ k) ∧ Drawn0 w wc))
  case first =>
   have H := HC2.out; clear HC2; by_cases c3 : (l0.length : Int) = 0
   · rw [if_pos c3] at H; (have c3b0 : ((l0.length : Int) == 0) = true := beq_iff_eq.mpr c3); (have c3b1 : ((l0.length : Int) != 0) = false := bne_eq_false_iff_eq.mpr c3); clear c3; ((first | rw [c3b0] | (simp only [i64_w, i32_w]; rw [c3b0]) | skip)); have H' := aM H; clear H; go_wp2; go_meet; (case rel => exact ⟨_, (true), z4, H', ⟨by first | omega | exact Nat.le_refl _⟩, by repeat (first | exact Drawn0.refl _ | apply Drawn0.step)⟩)
   rw [if_neg c3] at H; (have c3b0 : ((l0.length : Int) == 0) = false := beq_eq_false_iff_ne.mpr c3); (have c3b1 : ((l0.length : Int) != 0) = true := bne_iff_ne.mpr c3); (have c3b2 : ¬ (l0 = []) := fun h_ => c3 (by rw [h_]; rfl)); ((first | rw [c3b0] | (simp only [i64_w, i32_w]; rw [c3b0]) | skip)); by_cases c4 : (l0.length : Int) ≥ 12; rotate_left
   · rw [if_neg c4] at H; (have c4b0 : decide (12 ≤ (l0.length : Int)) = false := dF c4); (have c4b1 : decide (12 ≤ l0.length) = false := dF z3); clear c4; have H' := aM H; clear H; go_wp2; go_meet; (case rel => exact ⟨_, (false), z4, H', ⟨by first | omega | exact Nat.le_refl _⟩, by repeat (first | exact Drawn0.refl _ | apply Drawn0.step)⟩)
   rw [if_pos c4] at H; (have c4b0 : decide (12 ≤ (l0.length : Int)) = true := dT c4); (have c4b1 : decide (12 ≤ l0.length) = true := dT z3); clear c4; have H' := aM H; clear H; go_wp2; go_meet; (case rel => exact ⟨_, (decide ((l0.length : Int) < 15)), z4, H', ⟨by first | omega | exact Nat.le_refl _⟩, by repeat (first | exact Drawn0.refl _ | apply Drawn0.step)⟩)
  case rest =>
   clear HC2; (try clear p2); (try clear c3); (try clear c3b0); (try clear c3b1); (try clear c3b2); (try clear c4); (try clear c4b0); (try clear c4b1); obtain ⟨kq, x6_1, rfl, HA, HJ1, ⟨mc1, rfl⟩⟩ := hcut
   cases kq with
   | zero => exact absurd HA.out (by simp [bus_due.j0])
   | succ kj1 =>
    have H := HA.out; clear HA; simp only [bus_due.j0] at H; by_cases c5 : x6_1 = true
    · subst c5; (have H1 : (some 0) = some r := by rw [if_pos rfl] at H; exact H); clear H; have H := H1; clear H1; (obtain rfl := sI H); go_wp2; go_ret; (exact ⟨by first | rfl | (simp; done) | (simp [*]; done), by repeat (first | exact Drawn0.refl _ | apply Drawn0.step)⟩)
    (replace c5 := Bool.eq_false_iff.mpr c5); subst c5; (have H1 : (if (l0.length : Int) > 15 then (if (l0.length : Int) < 19 then (if 15 < (l0.length : Int) then (bus_due.j1 kj1 l0 (l0.length : Int) ((rd l0 15) == 1)) else (none)) else (bus_due.j1 kj1 l0 (l0.length : Int) false)) else (bus_due.j1 kj1 l0 (l0.length : Int) false)) = some r := by rw [if_neg (show ¬ (false = true) by decide)] at H; exact H); clear H; have H := H1; clear H1; have HC6 := aM H; clear H; (go_upto_region 4 with (fail)); (go_cut [17] (fun v17 wc => ∃ (kq : Nat) (x17_5 : Bool), v17 = .bool x17_5 ∧ Aside0 (bus_due.j1 kq l0 (l0.length : Int) x17_5 = some r) ∧ Aside0 (kq ≤ kj1) ∧ Drawn0 w wc))
    case first =>
     have H := HC6.out; clear HC6; by_cases c7 : (l0.length : Int) > 15; rotate_left
     · rw [if_neg c7] at H; (have c7b0 : decide (15 < (l0.length : Int)) = false := dF c7); (have c7b1 : decide (15 < l0.length) = false := dF z3); clear c7; ((first | rw [c7b0] | (simp only [i64_w, i32_w]; rw [c7b0]) | skip)); have H' := aM H; clear H; go_wp2; go_meet; (case rel => exact ⟨_, (false), z4, H', ⟨by have := HJ1.out; first | omega | exact Nat.le_refl _⟩, by repeat (first | exact Drawn0.refl _ | apply Drawn0.step)⟩)
     rw [if_pos c7] at H; (have c7b0 : decide (15 < (l0.length : Int)) = true := dT c7); (have c7b1 : decide (15 < l0.length) = true := dT z3); clear c7; ((first | rw [c7b0] | (simp only [i64_w, i32_w]; rw [c7b0]) | skip)); by_cases c8 : (l0.length : Int) < 19; rotate_left
     · rw [if_neg c8] at H; (have c8b0 : decide ((l0.length : Int) < 19) = false := dF c8); (have c8b1 : decide (l0.length < 19) = false := dF z3); clear c8; have H' := aM H; clear H; go_wp2; go_meet; (case rel => exact ⟨_, (false), z4, H', ⟨by have := HJ1.out; first | omega | exact Nat.le_refl _⟩, by repeat (first | exact Drawn0.refl _ | apply Drawn0.step)⟩)
     rw [if_pos c8] at H; (have c8b0 : decide ((l0.length : Int) < 19) = true := dT c8); (have c8b1 : decide (l0.length < 19) = true := dT z3); clear c8; by_cases c9 : 15 < (l0.length : Int); rotate_left
     · rw [if_neg c9] at H; (exact absurd H (by simp))
     rw [if_pos c9] at H; (have c9b0 : decide (15 < (l0.length : Int)) = true := dT c9); (have c9b1 : decide (15 < l0.length) = true := dT z3); clear c9; have H' := aM H; clear H; (have p965 : 0 ≤ (15 : Int) := z3); (have q965 : 15 < (l0.length : Int) := oD z2); (obtain ⟨ad965, e965, hx965_0⟩ := Kd.at_int HR0.out 15 p965 q965); cases e965; ((try simp only [show (15 : Int).toNat = 15 from rfl, Nat.reduceMul, Nat.reduceEqDiff, Go.Addr.add, ↓reduceIte] at hx965_0)); (have qi965 : (15 < l0.length) = True := eq_true z3); ((try rw [show ((15 : Int)).toNat = 15 from rfl] at hx965_0)); (replace p965 := eq_true p965); (replace q965 := eq_true q965); go_wp2; go_meet; (case rel => exact ⟨_, (((rd l0 15) == 1)), z4, H', ⟨by have := HJ1.out; first | omega | exact Nat.le_refl _⟩, by repeat (first | exact Drawn0.refl _ | apply Drawn0.step)⟩)
    case rest =>
     clear HC6; (try clear c1); (try clear p2); (try clear c3); (try clear c3b0); (try clear c3b1); (try clear c3b2); (try clear c4); (try clear c4b0); (try clear c4b1); (try clear c5); (try clear c7); (try clear c7b0); (try clear c7b1); (try clear c8); (try clear c8b0); (try clear c8b1); (try clear c9); (try clear c9b0); (try clear c9b1); (try clear p9); (try clear q9); (try clear hx9); (try clear qi9); (try clear hx965_0); (try clear p2); (try clear p965); (try clear q965); obtain ⟨kq, x17_5, rfl, HA, HJ5, ⟨mc5, rfl⟩⟩ := hcut
     cases kq with
     | zero => exact absurd HA.out (by simp [bus_due.j1])
     | succ kj5 =>
      have H := HA.out; clear HA; simp only [bus_due.j1] at H; by_cases c10 : x17_5 = true
      · subst c10; (have H1 : (some 0) = some r := by rw [if_pos rfl] at H; exact H); clear H; have H := H1; clear H1; (obtain rfl := sI H); go_wp2; go_ret; (exact ⟨by first | rfl | (simp; done) | (simp [*]; done), by repeat (first | exact Drawn0.refl _ | apply Drawn0.step)⟩)
      (replace c10 := Bool.eq_false_iff.mpr c10); subst c10; (have H1 : ((bus_bytesOf.f kj5 l0).bind fun t966 => (if (l0.length : Int) ≥ (wrap64 (19 + (wrap64 (8 * t966)))) then ((bus_bytesOf.f kj5 l0).bind fun t967 => (if 0 ≤ (wrap64 (19 + (wrap64 (8 * t967)))) then (if (wrap64 (19 + (wrap64 (8 * t967)))) ≤ (l0.length : Int) then ((bus_check.f kj5 (l0.take ((wrap64 (19 + (wrap64 (8 * t967)))) : Int).toNat)).bind fun t969 => ((bus_bytesOf.f kj5 l0).bind fun t970 => (if 0 ≤ (wrap64 (14 - (wrap64 ((wrap64 ((l0.length : Int) - 19)) - (wrap64 (8 * t970)))))) then (some (Go.bits .and .i64 (shr .i64 t969 (wrap64 (14 - (wrap64 ((wrap64 ((l0.length : Int) - 19)) - (wrap64 (8 * t970))))))) 1)) else (none)))) else (none)) else (none))) else (some (-1)))) = some r := by rw [if_neg (show ¬ (false = true) by decide)] at H; exact H); clear H; have H := H1; clear H1; (replace H := oB H); obtain ⟨t966, A110, H⟩ := H; (replace H : (if (l0.length : Int) ≥ (wrap64 (19 + (wrap64 (8 * t966)))) then ((bus_bytesOf.f kj5 l0).bind fun t967 => (if 0 ≤ (wrap64 (19 + (wrap64 (8 * t967)))) then (if (wrap64 (19 + (wrap64 (8 * t967)))) ≤ (l0.length : Int) then ((bus_check.f kj5 (l0.take ((wrap64 (19 + (wrap64 (8 * t967)))) : Int).toNat)).bind fun t969 => ((bus_bytesOf.f kj5 l0).bind fun t970 => (if 0 ≤ (wrap64 (14 - (wrap64 ((wrap64 ((l0.length : Int) - 19)) - (wrap64 (8 * t970)))))) then (some (Go.bits .and .i64 (shr .i64 t969 (wrap64 (14 - (wrap64 ((wrap64 ((l0.length : Int) - 19)) - (wrap64 (8 * t970))))))) 1)) else (none)))) else (none)) else (none))) else (some (-1))) = some r := H)
      have A11 := aM A110; clear A110; by_cases c12 : (l0.length : Int) ≥ (wrap64 (19 + (wrap64 (8 * t966)))); rotate_left
      · rw [if_neg c12] at H; (have c12b0 : decide ((wrap64 (19 + (wrap64 (8 * t966)))) ≤ (l0.length : Int)) = false := dF c12); clear c12; (obtain rfl := sI H); (go_wp2_with (first | ((with_reducible refine gate_callee (f := 48) rfl ?_); refine goesL_ (some 33) rfl rfl Tryd.func48 z5 rfl #[.slice A0 l0.length c0] rfl z1 ?_; (with_reducible refine (bus_bytesOf.calls kj5 _ _ l0 t966 _ ?side1 ?side2 A11.out).mono ?_); (case side1 => repeat (first | exact HR0.out | (with_reducible refine Kd.C_alloc ?_ _) | (with_reducible refine Kd.C_drewN ?_ _) | (with_reducible refine Kd.C_drew ?_))); (case side2 => exact HC0.out); rintro e w' ⟨rfl, ⟨nd, rfl⟩⟩; refine ⟨_, rfl, ?_⟩))); go_ret; (exact ⟨by first | rfl | (simp; done) | (simp [*]; done), by repeat (first | exact Drawn0.refl _ | apply Drawn0.step)⟩)
      rw [if_pos c12] at H; (have c12b0 : decide ((wrap64 (19 + (wrap64 (8 * t966)))) ≤ (l0.length : Int)) = true := dT c12); clear c12; (replace H := oB H); obtain ⟨t967, A130, H⟩ := H; (replace H : (if 0 ≤ (wrap64 (19 + (wrap64 (8 * t967)))) then (if (wrap64 (19 + (wrap64 (8 * t967)))) ≤ (l0.length : Int) then ((bus_check.f kj5 (l0.take ((wrap64 (19 + (wrap64 (8 * t967)))) : Int).toNat)).bind fun t969 => ((bus_bytesOf.f kj5 l0).bind fun t970 => (if 0 ≤ (wrap64 (14 - (wrap64 ((wrap64 ((l0.length : Int) - 19)) - (wrap64 (8 * t970)))))) then (some (Go.bits .and .i64 (shr .i64 t969 (wrap64 (14 - (wrap64 ((wrap64 ((l0.length : Int) - 19)) - (wrap64 (8 * t970))))))) 1)) else (none)))) else (none)) else (none)) = some r := H); have A13 := aM A130; clear A130; (obtain ⟨ji14, hji14⟩ : ∃ j_ : Int, (wrap64 (19 + (wrap64 (8 * t967)))) = j_ := ⟨_, rfl⟩); (replace H : (if 0 ≤ (ji14) then (if (ji14) ≤ (l0.length : Int) then ((bus_check.f kj5 (l0.take ((ji14) : Int).toNat)).bind fun t969 => ((bus_bytesOf.f kj5 l0).bind fun t970 => (if 0 ≤ (wrap64 (14 - (wrap64 ((wrap64 ((l0.length : Int) - 19)) - (wrap64 (8 * t970)))))) then (some (Go.bits .and .i64 (shr .i64 t969 (wrap64 (14 - (wrap64 ((wrap64 ((l0.length : Int) - 19)) - (wrap64 (8 * t970))))))) 1)) else (none)))) else (none)) else (none)) = some r := by first | (rw [hji14] at H; exact H) | (simp only [hji14] at H ⊢; exact H)); ((try rw [hji14] at A11)); ((try rw [hji14] at A13)); (have hji14w : (IntKind.i64.wrap (19 + (wrap64 (8 * t967)))) = ji14 := (i64_w _).trans hji14)
      by_cases c15 : 0 ≤ (ji14); rotate_left
      · rw [if_neg c15] at H; (exact absurd H (by simp))
      rw [if_pos c15] at H; (have c15b0 := eq_true c15); (have c15b1 : decide (0 ≤ (ji14)) = true := dT c15); clear c15; by_cases c16 : (ji14) ≤ (l0.length : Int); rotate_left
      · rw [if_neg c16] at H; (exact absurd H (by simp))
      rw [if_pos c16] at H; (have c16b0 := eq_true c16); (have c16b1 : decide ((ji14) ≤ (l0.length : Int)) = true := dT c16); clear c16; (replace H := oB H); obtain ⟨t969, A170, H⟩ := H; (replace H : ((bus_bytesOf.f kj5 l0).bind fun t970 => (if 0 ≤ (wrap64 (14 - (wrap64 ((wrap64 ((l0.length : Int) - 19)) - (wrap64 (8 * t970)))))) then (some (Go.bits .and .i64 (shr .i64 t969 (wrap64 (14 - (wrap64 ((wrap64 ((l0.length : Int) - 19)) - (wrap64 (8 * t970))))))) 1)) else (none))) = some r := H); have A17 := aM A170; clear A170; (replace H := oB H); obtain ⟨t970, A180, H⟩ := H; (replace H : (if 0 ≤ (wrap64 (14 - (wrap64 ((wrap64 ((l0.length : Int) - 19)) - (wrap64 (8 * t970)))))) then (some (Go.bits .and .i64 (shr .i64 t969 (wrap64 (14 - (wrap64 ((wrap64 ((l0.length : Int) - 19)) - (wrap64 (8 * t970))))))) 1)) else (none)) = some r := H); have A18 := aM A180; clear A180; (obtain ⟨ji19, hji19⟩ : ∃ j_ : Int, (wrap64 (14 - (wrap64 ((wrap64 ((l0.length : Int) - 19)) - (wrap64 (8 * t970)))))) = j_ := ⟨_, rfl⟩); (replace H : (if 0 ≤ (ji19) then (some (Go.bits .and .i64 (shr .i64 t969 (ji19)) 1)) else (none)) = some r := by first | (rw [hji19] at H; exact H) | (simp only [hji19] at H ⊢; exact H)); ((try rw [hji19] at A11)); ((try rw [hji19] at A13)); ((try rw [hji19] at A17)); ((try rw [hji19] at A18)); (have hji19w : (IntKind.i64.wrap (14 - (wrap64 ((wrap64 ((l0.length : Int) - 19)) - (wrap64 (8 * t970)))))) = ji19 := (i64_w _).trans hji19); by_cases c20 : 0 ≤ (ji19)
      rotate_left
      · rw [if_neg c20] at H; (exact absurd H (by simp))
      rw [if_pos c20] at H; (have c20b0 := eq_true c20); (have c20b1 : decide (0 ≤ (ji19)) = true := dT c20); clear c20; (obtain ⟨ji21, hji21⟩ : ∃ j_ : Int, (shr .i64 t969 (ji19)) = j_ := ⟨_, rfl⟩); (replace H : (some (Go.bits .and .i64 (ji21) 1)) = some r := by first | (rw [hji21] at H; exact H) | (simp only [hji21] at H ⊢; exact H)); ((try rw [hji21] at A11)); ((try rw [hji21] at A13)); ((try rw [hji21] at A17)); ((try rw [hji21] at A18)); (have hji21_ : (t969 / 2 ^ min (ji19).toNat 64) = ji21 := hji21); (have hji21z : (ji19) ≤ 64 → (t969 / 2 ^ (ji19).toNat) = ji21 := shr_small hji21); (obtain rfl := sI H); (go_wp2_with (first | ((with_reducible refine gate_callee (f := 48) rfl ?_); refine goesL_ (some 33) rfl rfl Tryd.func48 z5 rfl #[.slice A0 l0.length c0] rfl z1 ?_; (with_reducible refine (bus_bytesOf.calls kj5 _ _ l0 t966 _ ?side1 ?side2 A11.out).mono ?_); (case side1 => repeat (first | exact HR0.out | (with_reducible refine Kd.C_alloc ?_ _) | (with_reducible refine Kd.C_drewN ?_ _) | (with_reducible refine Kd.C_drew ?_))); (case side2 => exact HC0.out); rintro e w' ⟨rfl, ⟨nd, rfl⟩⟩; refine ⟨_, rfl, ?_⟩) | ((with_reducible refine gate_callee (f := 48) rfl ?_); refine goesL_ (some 39) rfl rfl Tryd.func48 z5 rfl #[.slice A0 l0.length c0] rfl z1 ?_; (with_reducible refine (bus_bytesOf.calls kj5 _ _ l0 t967 _ ?side1 ?side2 A13.out).mono ?_); (case side1 => repeat (first | exact HR0.out | (with_reducible refine Kd.C_alloc ?_ _) | (with_reducible refine Kd.C_drewN ?_ _) | (with_reducible refine Kd.C_drew ?_))); (case side2 => exact HC0.out); rintro e w' ⟨rfl, ⟨nd, rfl⟩⟩; refine ⟨_, rfl, ?_⟩; obtain ⟨i022, hi022, _, hsz22, _⟩ := info_parts info3; obtain ⟨hcut22, hA22, hC22⟩ := print_take_of (P := Tryd.prog) (Value.int .i64) 0 22 3 .i64 Tryd.underlying22 hi022 hsz22 A0 c0 l0 (ji14) (oD z2) (oD z2) HC0.out; have HR968 := aM (Kd.C_of_reads (h1 := fun _ => rfl) (hA22 _ (Kd.reads_of_C HR0.out))); have HC968 := aM hC22; clear hA22 hC22 hi022 hsz22) | ((with_reducible refine gate_callee (f := 62) rfl ?_); refine goesL_ (some 43) rfl rfl Tryd.func62 z5 rfl #[.slice A0 (l0.take ((ji14) : Int).toNat).length c0] rfl (by (try simp only [List.map_toArray, List.map_cons, List.map_nil]); first | done | (rw [show (l0.take ((ji14) : Int).toNat).length = (ji14).toNat from (by rw [List.length_take]; have h_ : ((ji14) : Int) ≤ (l0.length : Int) := oD z2; omega)] <;> rfl) | (simp only [hji14]; rfl) | rfl | (simp only [List.length_drop, List.length_take]; rfl)) ?_; (with_reducible refine (bus_check.calls kj5 _ _ (l0.take ((ji14) : Int).toNat) t969 _ ?side1 ?side2 A17.out).mono ?_); (case side1 => repeat (first | exact HR968.out | (with_reducible refine Kd.C_alloc ?_ _) | (with_reducible refine Kd.C_drewN ?_ _) | (with_reducible refine Kd.C_drew ?_))); (case side2 => exact HC968.out); rintro e w' ⟨rfl, ⟨nd, rfl⟩⟩; refine ⟨_, rfl, ?_⟩) | ((with_reducible refine gate_callee (f := 48) rfl ?_); refine goesL_ (some 47) rfl rfl Tryd.func48 z5 rfl #[.slice A0 l0.length c0] rfl z1 ?_; (with_reducible refine (bus_bytesOf.calls kj5 _ _ l0 t970 _ ?side1 ?side2 A18.out).mono ?_); (case side1 => repeat (first | exact HR0.out | (with_reducible refine Kd.C_alloc ?_ _) | (with_reducible refine Kd.C_drewN ?_ _) | (with_reducible refine Kd.C_drew ?_))); (case side2 => exact HC0.out); rintro e w' ⟨rfl, ⟨nd, rfl⟩⟩; refine ⟨_, rfl, ?_⟩)))
      go_ret; (exact ⟨by first | rfl | (simp; done) | (simp only [← hji14, ← hji19, ← hji21] <;> (first | rfl | simp)) | (simp [*]; done), by repeat (first | exact Drawn0.refl _ | apply Drawn0.step)⟩)
end Go.Proofs.YtbanemecfobonaaDoor.B
namespace Go.Proofs.YtbanemecfobonaaDoor.B
open Go.RowKit Go.Proofs.YtbanemecfobonaaDoorW.PrintWords Go.Proofs.YtbanemecfobonaaDoorW.PrintLast Go.Proofs.YtbanemecfobonaaDoorW.PrintMore
set_option linter.unusedVariables false
set_option linter.unusedSimpArgs false
def idxOf {α : Type} (p : α → Bool) (l : List α) : Int := match l.findIdx? p with | some i => (i : Int) | none => -1
theorem idxOf_none {α : Type} [Inhabited α] {d : α} (p : α → Bool) (l : List α) (h : ∀ j : Nat, j < l.length → p (l.getD j d) = false) : idxOf p l = -1 := by
  unfold idxOf
  rw [List.findIdx?_eq_none_iff.2]
  intro x hx
  obtain ⟨j, hj, rfl⟩ := List.getElem_of_mem hx
  have := h j hj
  rwa [List.getD_eq_getElem?_getD, List.getElem?_eq_getElem hj] at this
theorem idxOf_some {α : Type} {d : α} (p : α → Bool) (l : List α) (k : Int) (h0 : 0 ≤ k) (hk : k < l.length) (hp : p (l.getD k.toNat d) = true)
    (h : ∀ j : Nat, j < k.toNat → p (l.getD j d) = false) : idxOf p l = k := by
  have hk' : k.toNat < l.length := by omega
  have e : l.findIdx? p = some k.toNat := by
    rw [List.findIdx?_eq_some_iff_getElem]
    refine ⟨hk', ?_, fun j hj => ?_⟩
    · rwa [List.getD_eq_getElem?_getD, List.getElem?_eq_getElem hk'] at hp
    · have := h j hj
      rw [List.getD_eq_getElem?_getD, List.getElem?_eq_getElem z3] at this
      simpa using this
  unfold idxOf
  rw [e]
  show ((k.toNat : Nat) : Int) = k
  omega
set_option maxHeartbeats 1000000 in
set_option maxRecDepth 100000 in
theorem IndexFunc_int.calls (p : Int → Bool) (F : Nat) (hE : ∀ args w, (callFunc F args).run Tryd.prog w = .ok (.enter F args) w) (hF : ∀ x w, Calls Tryd.prog F #[.int .i64 x] w fun e w' => e = .returned (.bool (p x)) ∧ Drawn0 w w')
    (A0 : Option Addr) (c0 : Nat) (l0 : List Int) (w : World) (hr0 : Kd.C (Kd.int .i64) w A0 l0.length l0) (hc0 : l0.length ≤ c0) :
    Calls Tryd.prog 82 #[.slice A0 l0.length c0, .func (.func F) #[] #[]] w fun e w' => e = .returned (.int .i64 (idxOf p l0)) ∧ Drawn0 w w' := by
  have HR0 := aM hr0; have HC0 := aM hc0; have HF := aM hF; clear hr0 hc0 hF; (have hlen : (l0.length : Int) ≤ 9223372036854775807 := by have := HR0.out.2.1; omega); (go_enter Tryd.func82, Tryd.ntmps82); go_wp2; (go_loopg [8] l0.length (fun g v8 w' => ∃ k : Int, v8 = .int .i64 k ∧ 0 ≤ k ∧ k ≤ l0.length ∧ Aside0 (g = l0.length - k.toNat) ∧ Aside0 (∀ j : Nat, j < k.toNat → p (l0.getD j 0) = false) ∧ Drawn0 w w')); (case atStart => exact ⟨0, rfl, by omega, by omega, ⟨by simp⟩, ⟨fun j hj => by simp at hj⟩, by repeat (first | exact Drawn0.refl _ | apply Drawn0.step)⟩)
  case round =>
   obtain ⟨k, rfl, hk0, hk, HG, HP, ⟨m1, rfl⟩⟩ := hrel; by_cases hlt : k < l0.length; rotate_left
   · (have hn : idxOf p l0 = -1 := idxOf_none p l0 (fun j hj => HP.out j z3)); have HN := aM hn; clear hn; (go_wp2_with fail); go_ret; (exact ⟨by rw [HN.out]; first | rfl | simp, by repeat (first | exact Drawn0.refl _ | apply Drawn0.step)⟩)
   (obtain ⟨ad, e0, hx⟩ := Kd.at_int HR0.out k hk0 hlt); cases e0; (cases hpx : p (rd l0 k)); rotate_left
   · have HX := aM hpx; (go_wp2_with (refine (HF.out _ _).mono ?_; rintro e w' ⟨rfl, ⟨nd, rfl⟩⟩)); go_ret; (have hid : idxOf p l0 = k := idxOf_some p l0 k hk0 hlt HX.out HP.out); (exact ⟨by simp [hid], by repeat (first | exact Drawn0.refl _ | apply Drawn0.step)⟩)
   have HX := aM hpx; (go_wp2_with (refine (HF.out _ _).mono ?_; rintro e w' ⟨rfl, ⟨nd, rfl⟩⟩)); (go_roundg (gk - 1)); (case measure => have := HG.out; omega)
   case rel => exact ⟨k + 1, rfl, by omega, by omega, ⟨by have := HG.out; omega⟩, ⟨fun j hj => by
     rcases Nat.lt_or_ge j k.toNat with h | h
     · exact HP.out j h
     · have : j = k.toNat := by omega
       subst this
       exact HX.out⟩, by repeat (first | exact Drawn0.refl _ | apply Drawn0.step)⟩
theorem idxOf_ge {α : Type} (p : α → Bool) (l : List α) : decide (idxOf p l ≥ 0) = l.any p := by
  unfold idxOf
  cases h : l.findIdx? p with
  | none =>
    rw [List.findIdx?_eq_none_iff] at h
    have : l.any p = false := by simpa [List.any_eq_false] using h
    rw [this]; rfl
  | some i =>
    obtain ⟨hi, hp, _⟩ := List.findIdx?_eq_some_iff_getElem.1 h
    have : l.any p = true := List.any_eq_true.2 ⟨_, List.getElem_mem hi, hp⟩
    rw [this]
    simp
theorem enter_of {F : Nat} {fn : Func} (hf : Tryd.prog.funcs[F]? = some fn) (hname : (fn.name == "runtime.NumGoroutine") = false) (hb : fn.body.isSome = true) :
    ∀ (args : Array Value) (w : World), (callFunc F args).run Tryd.prog w = .ok (.enter F args) w := fun args w => enters_ hf hname hb args w
set_option maxHeartbeats 1000000 in
theorem ContainsFunc_int.calls (p : Int → Bool) (F : Nat) (hE : ∀ args w, (callFunc F args).run Tryd.prog w = .ok (.enter F args) w) (hF : ∀ x w, Calls Tryd.prog F #[.int .i64 x] w fun e w' => e = .returned (.bool (p x)) ∧ Drawn0 w w')
    (A0 : Option Addr) (c0 : Nat) (l0 : List Int) (w : World) (hr0 : Kd.C (Kd.int .i64) w A0 l0.length l0) (hc0 : l0.length ≤ c0) :
    Calls Tryd.prog 80 #[.slice A0 l0.length c0, .func (.func F) #[] #[]] w fun e w' => e = .returned (.bool (l0.any p)) ∧ Drawn0 w w' := by
  have HI := aM (IndexFunc_int.calls p F hE hF A0 c0 l0)
  have HR0 := aM hr0
  have HC0 := aM hc0
  have HG := aM (idxOf_ge p l0)
  clear hr0 hc0 hF hE
  go_enter Tryd.func80, Tryd.ntmps80
  go_wp2_with (go_at_call 82; refine (HI.out _ HR0.out HC0.out).mono ?_; rintro e w' ⟨rfl, ⟨nd, rfl⟩⟩)
  go_ret
  exact ⟨by rw [← HG.out]; first | rfl | simp, by repeat (first | exact Drawn0.refl _ | apply Drawn0.step)⟩
set_option maxHeartbeats 1000000 in
theorem bus_valid1.calls (x : Int) (w : World) : Calls Tryd.prog 90 #[.int .i64 x] w fun e w' => e = .returned (.bool (decide (x < 0) || decide (255 < x))) ∧ Drawn0 w w' := by
  by_cases h1 : x < 0
  · have e1 : (decide (x < 0) || decide (255 < x)) = true := by simp [h1]
    have E1 := aM e1
    clear e1
    go_enter Tryd.func90, Tryd.ntmps90
    go_wp2
    go_ret
    exact ⟨by rw [E1.out]; first | rfl | simp, by repeat (first | exact Drawn0.refl _ | apply Drawn0.step)⟩
  · have e1 : (decide (x < 0) || decide (255 < x)) = decide (255 < x) := by simp [h1]
    have E1 := aM e1
    clear e1
    go_enter Tryd.func90, Tryd.ntmps90
    go_wp2
    go_ret
    exact ⟨by rw [E1.out]; first | rfl | simp, by repeat (first | exact Drawn0.refl _ | apply Drawn0.step)⟩
set_option maxHeartbeats 1000000 in
theorem bus_binary1.calls (x : Int) (w : World) : Calls Tryd.prog 93 #[.int .i64 x] w fun e w' => e = .returned (.bool (x != 0 && x != 1)) ∧ Drawn0 w w' := by
  by_cases h1 : x = 0
  · subst h1
    go_enter Tryd.func93, Tryd.ntmps93
    go_wp2
    go_ret
    exact ⟨by first | rfl | simp, by repeat (first | exact Drawn0.refl _ | apply Drawn0.step)⟩
  · have h2 : (x != 0) = true := bne_iff_ne.2 h1
    have h3 : (x == 0) = false := beq_eq_false_iff_ne.2 h1
    have e1 : (x != 0 && x != 1) = (x != 1) := by rw [h2]; rfl
    have E1 := aM e1
    clear e1
    go_enter Tryd.func93, Tryd.ntmps93
    go_wp2
    go_ret
    exact ⟨by rw [E1.out]; first | rfl | simp, by repeat (first | exact Drawn0.refl _ | apply Drawn0.step)⟩
def bus_binary.f (l0 : List Int) : Option Bool := some (decide (l0.length ≤ 200) && !l0.any (fun x => x != 0 && x != 1))
set_option maxHeartbeats 1000000 in
theorem bus_binary.calls (A0 : Option Addr) (c0 : Nat) (l0 : List Int) (r : Bool) (w : World) (hr0 : Kd.C (Kd.int .i64) w A0 l0.length l0) (hc0 : l0.length ≤ c0) (h : bus_binary.f l0 = some r) :
    Calls Tryd.prog 46 #[.slice A0 l0.length c0] w fun e w' => e = .returned (.bool r) ∧ Drawn0 w w' := by
  have HI := aM (ContainsFunc_int.calls _ 93 (enter_of Tryd.func93 z5 rfl) bus_binary1.calls A0 c0 l0)
  have HR0 := aM hr0
  have HC0 := aM hc0
  have hE := enter_of Tryd.func80 z5 rfl
  clear hr0 hc0
  unfold bus_binary.f at h
  by_cases h1 : l0.length ≤ 200
  · have e1 : r = !l0.any (fun x => x != 0 && x != 1) := by simpa [h1] using h.symm
    have E1 := aM e1
    clear e1 h
    go_enter Tryd.func46, Tryd.ntmps46
    go_wp2_with (go_at_call 80; refine (HI.out _ HR0.out HC0.out).mono ?_; rintro e w' ⟨rfl, ⟨nd, rfl⟩⟩)
    go_ret
    exact ⟨by rw [E1.out]; first | rfl | simp, by repeat (first | exact Drawn0.refl _ | apply Drawn0.step)⟩
  · have e1 : r = false := by simpa [h1] using h.symm
    subst e1
    clear h
    go_enter Tryd.func46, Tryd.ntmps46
    go_wp2
    go_ret
    exact ⟨by first | rfl | simp, by repeat (first | exact Drawn0.refl _ | apply Drawn0.step)⟩
def bus_valid.f (a0 : Int) (l : List Int) : Option Bool := some (decide (0 ≤ a0) && decide (a0 ≤ 2047) && decide (l.length ≤ 8) && !l.any (fun x => decide (x < 0) || decide (255 < x)))
set_option maxHeartbeats 1000000 in
set_option maxRecDepth 100000 in
theorem bus_valid.calls (a0_0 : Int) (A0_1 : Option Addr) (c0_1 : Nat) (l0_1 : List Int) (r : Bool) (w : World) (hr0_1 : Kd.C (Kd.int .i64) w A0_1 l0_1.length l0_1) (hc0_1 : l0_1.length ≤ c0_1) (h : bus_valid.f a0_0 l0_1 = some r) :
    Calls Tryd.prog 44 #[.agg #[.int .i64 a0_0, .slice A0_1 l0_1.length c0_1]] w fun e w' => e = .returned (.bool r) ∧ Below w.heap.size w w' := by
  (have HI := aM (ContainsFunc_int.calls _ 90 (enter_of Tryd.func90 z5 rfl) bus_valid1.calls A0_1 c0_1 l0_1)); have HR0 := aM hr0_1; have HC0 := aM hc0_1; (have hE := enter_of Tryd.func80 z5 rfl); (have HB := aM (Below.refl w.heap.size w)); clear hr0_1 hc0_1; (unfold bus_valid.f at h); by_cases h1 : 0 ≤ a0_0; rotate_left
  · (have e1 : r = false := by simpa [h1] using h.symm); subst e1; clear h; (go_enter Tryd.func44, Tryd.ntmps44); go_wp2; go_ret; (exact ⟨by first | rfl | simp, by repeat (first | exact HB.out | apply bAl | apply pBd | apply bD1)⟩)
  by_cases h2 : a0_0 ≤ 2047; rotate_left
  · (have e1 : r = false := by simpa [h1, h2] using h.symm); subst e1; clear h; (go_enter Tryd.func44, Tryd.ntmps44); go_wp2; go_ret; (exact ⟨by first | rfl | simp, by repeat (first | exact HB.out | apply bAl | apply pBd | apply bD1)⟩)
  by_cases h3 : l0_1.length ≤ 8; rotate_left
  · (have e1 : r = false := by simpa [h1, h2, h3] using h.symm); subst e1; clear h; (go_enter Tryd.func44, Tryd.ntmps44); go_wp2; go_ret; (exact ⟨by first | rfl | simp, by repeat (first | exact HB.out | apply bAl | apply pBd | apply bD1)⟩)
  (have e1 : r = !l0_1.any (fun x => decide (x < 0) || decide (255 < x)) := by simpa [h1, h2, h3] using h.symm); have E1 := aM e1; clear e1 h; (go_enter Tryd.func44, Tryd.ntmps44); (go_wp2_with (go_at_call 80; refine (HI.out _ (by repeat (first | exact HR0.out | (with_reducible refine Kd.C_alloc ?_ _) | (with_reducible refine Kd.C_drewN ?_ _) | (with_reducible refine Kd.C_drew ?_))) HC0.out).mono ?_; rintro e w' ⟨rfl, ⟨nd, rfl⟩⟩)); go_ret; (exact ⟨by rw [E1.out]; first | rfl | simp, by repeat (first | exact HB.out | apply bAl | apply pBd | apply bD1)⟩)
def tailD : List Int := [1, 0, 1, 1, 1, 1, 1, 1, 1, 1, 1, 1, 1]
theorem tailD_length : tailD.length = 13 := rfl
def TailLaid (w : World) : Prop := ∃ A c, w.cell? ⟨0, 0, none⟩ = some (.slice A 13 c) ∧ 13 ≤ c ∧ Kd.C (Kd.int .i64) w A 13 tailD
theorem TailLaid.below {w w1 : World} (h : TailLaid w) (hb : Below w.heap.size w w1) : TailLaid w1 := by
  obtain ⟨A, c, hc, hl, hr⟩ := h
  exact ⟨A, c, pw_cell_below hb hc, hl, Kd.C_below hr hb⟩
def put1 (bit many b : Int) : Int × Int := if many > 0 then (if bit = b then (bit, wrap64 (many + 1)) else (b, 1)) else (b, 1)
theorem put1_f (bit many b : Int) : bus_row_put.f bit many b = some ((put1 bit many b).1, (put1 bit many b).2) := by
  unfold bus_row_put.f put1
  split
  · split <;> rfl
  · rfl
def stuffed : List Int → Int → Int → List Int
  | [], _, _ => []
  | b :: l, bit, many =>
    if (put1 bit many b).2 = 5 then b :: wrap64 (1 - b) :: stuffed l (put1 (put1 bit many b).1 (put1 bit many b).2 (wrap64 (1 - b))).1 (put1 (put1 bit many b).1 (put1 bit many b).2 (wrap64 (1 - b))).2
    else b :: stuffed l (put1 bit many b).1 (put1 bit many b).2
def bus_bitsOf.f (a0 : Int) (l : List Int) : Option (List Int) := (bus_plain.f 300 a0 l).bind fun p => if p.length ≤ 1000 then some (stuffed p 0 0 ++ tailD) else none
theorem keepS78 {w0 W W1 : World} {g : Nat} {b m : Int} {base : Nat} {ok : Nat → Prop} {v : Value} {xs : List Int} (hI : IsS78 w0 W g b m) (hk : KeepBut W W1 g none) (ho : Kd.R (Kd.int .i64) 3 W base ok v xs) : Kd.R (Kd.int .i64) 3 W1 base ok v xs :=
  Kd.R_mono (Kd.R_keep (IsS78.apart hI ho z9) hk (fun _ hk => hk.2)) (fun _ hk => hk.1)
set_option maxHeartbeats 8000000 in
set_option maxRecDepth 100000 in
theorem bus_bitsOf.calls (a0_0 : Int) (A0_1 : Option Addr) (c0_1 : Nat) (l0_1 : List Int) (r : List Int) (w : World) (hr0_1 : Kd.C (Kd.int .i64) w A0_1 l0_1.length l0_1) (hc0_1 : l0_1.length ≤ c0_1) (h : bus_bitsOf.f a0_0 l0_1 = some r) (ht : TailLaid w) :
    Calls Tryd.prog 45 #[.agg #[.int .i64 a0_0, .slice A0_1 l0_1.length c0_1]] w fun e w' => ∃ v0_ : Value, e = .returned (v0_) ∧ Kd.R (Kd.int .i64) 3 w' w.heap.size (fun _ => True) v0_ r ∧ Below w.heap.size w w' := by
  have HR0 := aM hr0_1; have HC0 := aM hc0_1; have HT := aM ht; (have HB := aM (Below.refl w.heap.size w)); have hu24 := Tryd.underlying24; clear hr0_1 hc0_1 ht; (unfold bus_bitsOf.f at h); (obtain ⟨p, hp, h⟩ := Option.bind_eq_some_iff.1 h)
  have hpl : p.length ≤ 1000 := by
    rcases Nat.lt_or_ge 1000 p.length with hl | hl
    · rw [if_neg z3] at h; exact absurd h (by simp)
    · exact hl
  rw [if_pos hpl] at h; (obtain rfl := sI h); have HP := aM hp; have HPL := aM hpl; clear h hp hpl; (go_enter Tryd.func45, Tryd.ntmps45); (go_wp2_with fail); (refine (bus_plain.calls 300 a0_0 _ _ l0_1 p _ ?s1 HC0.out HP.out).mono ?_); (case s1 => exact Kd.C_alloc (Kd.C_alloc HR0.out _) _); (rintro e w1 ⟨vp, rfl, hop, hb⟩); (have hB1 : Below w.heap.size w w1 := bSt (by repeat (first | exact HB.out | apply bAl)) hb)
  have hS1 : IsS78 w w1 (w.heap.size + 1) 0 0 := by
    have h0 := IsS78.new w (w.alloc (.cells #[.int .i64 a0_0, .slice A0_1 l0_1.length c0_1] 24)) 0 0 (by repeat (first | exact HB.out | apply bAl))
    have h1 := IsS78.below h0 hb
    simpa using h1
  (have hop1 : Kd.R (Kd.int .i64) 3 w1 w.heap.size (fun _ => True) vp p := Kd.R_lower hop (by simp; omega)); clear HB hop hb; have HB := aM hB1; have HI := aM hS1; have HOP := aM hop1; clear hB1 hS1 hop1; (obtain ⟨Ap, cp, rfl⟩ := Kd.R_slice HOP.out); (go_wp2_with fail); (go_loopg [3, 10] p.length (fun gq v3 v10 w' => ∃ (x : Int) (xs : List Int) (bit many : Int), v10 = .int .i64 x ∧ 0 ≤ x ∧ x ≤ p.length ∧ Aside0 (gq = p.length - x.toNat) ∧ Aside0 (xs ++ stuffed (p.drop x.toNat) bit many = stuffed p 0 0) ∧ Aside0 (xs.length ≤ 2 * x.toNat) ∧ Aside0 (IsS78 w w' (w.heap.size + 1) bit many) ∧ Aside0 (Kd.R (Kd.int .i64) 3 w' w.heap.size (fun k_ => True ∧ some k_ ≠ (v3 : Value).ownBlock) (.slice Ap p.length cp) p) ∧ Aside0 (Kd.R (Kd.int .i64) 3 w' w.heap.size (fun k_ => some k_ ≠ (.slice Ap p.length cp : Value).ownBlock) v3 xs) ∧ Aside0 (Below w.heap.size w w'))); (case atStart => exact ⟨0, [], 0, 0, rfl, by omega, by omega, ⟨by simp⟩, ⟨by simp⟩, ⟨by simp⟩, HI, ⟨Kd.R_mono HOP.out (fun _ hk => ⟨trivial, by simp [Value.ownBlock]⟩)⟩, ⟨Kd.R_nil _ _ _ _ _⟩, HB⟩)
  case round =>
   clear HI HOP HB; obtain ⟨x, xs, bit, many, rfl, hx0, hxl, HG, HE, HL, HI, HOp, HOo, HB⟩ := hrel; (have hpl9 : (p.length : Int) ≤ 1000 := by have := HPL.out; omega); by_cases hlt : x < p.length; rotate_left
   · (obtain ⟨At, ct, hct, hlt2, hrt⟩ := TailLaid.below HT.out HB.out); have HRT := aM hrt; (have hx : x = p.length := by omega); (have HE2 : Aside0 (stuffed p 0 0 = xs) := ⟨by rw [← HE.out, hx]; simp [stuffed]⟩); clear hrt hx; (go_wp2_with ((with_reducible refine gate_builtin (b := .append) (xs := #[.tmp 30, .tmp 31]) rfl ?_); at_builtin; refine Kd.R_append_rows (Kd.int .i64) (w0 := w) w.heap.size rfl (.tmp 30) (.tmp 31) 22 3 (.int .i64 0) 8 rfl Tryd.underlying22 info3 rfl z9 z3 u3 xs tailD _ _ _ (fun k_ => True) (fun _ => False) rfl rfl ?aO ?aR (fun _ _ h => h) (fun _ h => h.elim) ?aF ?aB ?aS ?aL ?_; (case aR => exact HRT.out); (case aB => exact HB.out); (case aF => exact fun _ _ => trivial); (case aO => exact Kd.R_mono HOo.out (fun _ _ => trivial)); (case aS => exact HB.out.size); (case aL => have := HL.out; have := HPL.out; omega); intro v1 w2 ho1 hb1 hg1 hat1; have Ho2 := aM ho1; have Hb2 := aM hb1; clear ho1 hb1 hg1 hat1)); go_ret; (exact ⟨_, rfl, by rw [HE2.out]; exact Ho2.out, Hb2.out⟩)
   (obtain ⟨ad, e0, hxc⟩ := Kd.at_int (Kd.R_reads' HOp.out).2.2 x hx0 hlt); cases e0
   have hdrop : p.drop x.toNat = rd p x :: p.drop (x + 1).toNat := by
     have e1 : (x + 1).toNat = x.toNat + 1 := by omega
     have h1 : x.toNat < p.length := by omega
     rw [e1, List.drop_eq_getElem_cons h1]
     congr 1
     simp [rd, List.getD_eq_getElem?_getD, List.getElem?_eq_getElem h1]
   have HD := aM hdrop; clear hdrop; by_cases h5 : (put1 bit many (rd p x)).2 = 5; rotate_left
   · (have hb5 : ((put1 bit many (rd p x)).2 == 5) = false := beq_eq_false_iff_ne.2 h5); have H5 := aM h5; clear h5; (go_wp2_with ((with_reducible refine gate_builtin (b := .append) (xs := #[.tmp 14, .tmp 16]) rfl ?_); at_builtin; refine Kd.R_append (Kd.int .i64) (w0 := w) w.heap.size rfl (.tmp 14) (.tmp 16) 22 3 (.int .i64 0) 8 rfl Tryd.underlying22 info3 rfl z9 z3 u3 (xs) (rd p x) [.int .i64 (rd p x)] (fun k_ => some k_ ≠ (.slice (some ad) p.length cp : Value).ownBlock) (fun _ => False) rfl rfl ?aP (fun _ hk => hk.elim) ?aF ?aO ?aB ?aS ?aL ?_; (case aP => exact rfl); (case aB => exact HB.out); (case aF => exact (fun k_ hk => Kd.fresh' (Kd.R_lt HOp.out) k_ hk)); (case aO => exact HOo.out); (case aS => exact HB.out.size); (case aL => have := HL.out; have := HPL.out; simp; omega); intro v2 w2 ho1 hb1 hg1 hat1; have Ho2 := aM ho1; have Hb2 := aM hb1; have Hg2 := aM hg1; have Ha2 := aM hat1; clear ho1 hb1 hg1 hat1)); (have HOp2 := aM (Kd.R_after (ok := fun _ => True) HOp.out Hg2.out Ha2.out)); (have HI2 := aM (IsS78.grown HI.out Hg2.out (IsS78.own_ne HI.out HOo.out z9))); (refine (bus_row_put.calls (w.heap.size + 1) (bit) (many) (rd p x) _ _ w _ HI2.out Hb2.out (put1_f _ _ _)).mono ?_); (rintro e w3 ⟨rfl, hi3, hb3, hk3⟩); have HI3 := aM hi3; have Hb3 := aM hb3; (have Ho3 := aM (keepS78 HI2.out hk3 Ho2.out)); (have HOp3 := aM (keepS78 HI2.out hk3 HOp2.out)); clear hi3 hb3 hk3; (go_wp2_with fail); (refine (bus_row_full.calls (w.heap.size + 1) ((put1 bit many (rd p x)).1) ((put1 bit many (rd p x)).2) _ _ _ w _ HI3.out Hb3.out rfl).mono ?_)
     (rintro e w4 ⟨rfl, hi4, hb4, hk4⟩); have HI4 := aM hi4; have Hb4 := aM hb4; (have Ho4 := aM (keepS78 HI3.out hk4 Ho3.out)); (have HOp4 := aM (keepS78 HI3.out hk4 HOp3.out)); clear hi4 hb4 hk4; (go_wp2_with fail); (go_roundg (gk - 1)); (case measure => have := HG.out; omega); (case rel => exact ⟨x + 1, xs ++ [rd p x], (put1 bit many (rd p x)).1, (put1 bit many (rd p x)).2, rfl, by omega, by omega, ⟨by have := HG.out; omega⟩, ⟨by rw [← HE.out, HD.out, stuffed, if_neg H5.out]; simp⟩, ⟨by have := HL.out; simp; omega⟩, HI4, HOp4, Ho4, Hb4⟩)
   (have hb5 : ((put1 bit many (rd p x)).2 == 5) = true := beq_iff_eq.2 h5); have H5 := aM h5; clear h5; (go_wp2_with ((with_reducible refine gate_builtin (b := .append) (xs := #[.tmp 14, .tmp 16]) rfl ?_); at_builtin; refine Kd.R_append (Kd.int .i64) (w0 := w) w.heap.size rfl (.tmp 14) (.tmp 16) 22 3 (.int .i64 0) 8 rfl Tryd.underlying22 info3 rfl z9 z3 u3 (xs) (rd p x) [.int .i64 (rd p x)] (fun k_ => some k_ ≠ (.slice (some ad) p.length cp : Value).ownBlock) (fun _ => False) rfl rfl ?aP (fun _ hk => hk.elim) ?aF ?aO ?aB ?aS ?aL ?_; (case aP => exact rfl); (case aB => exact HB.out); (case aF => exact (fun k_ hk => Kd.fresh' (Kd.R_lt HOp.out) k_ hk)); (case aO => exact HOo.out); (case aS => exact HB.out.size); (case aL => have := HL.out; have := HPL.out; simp; omega); intro v2 w2 ho1 hb1 hg1 hat1; have Ho2 := aM ho1; have Hb2 := aM hb1; have Hg2 := aM hg1; have Ha2 := aM hat1; clear ho1 hb1 hg1 hat1)); (have HOp2 := aM (Kd.R_after (ok := fun _ => True) HOp.out Hg2.out Ha2.out)); (have HI2 := aM (IsS78.grown HI.out Hg2.out (IsS78.own_ne HI.out HOo.out z9))); (refine (bus_row_put.calls (w.heap.size + 1) (bit) (many) (rd p x) _ _ w _ HI2.out Hb2.out (put1_f _ _ _)).mono ?_); (rintro e w3 ⟨rfl, hi3, hb3, hk3⟩); have HI3 := aM hi3; have Hb3 := aM hb3; (have Ho3 := aM (keepS78 HI2.out hk3 Ho2.out)); (have HOp3 := aM (keepS78 HI2.out hk3 HOp2.out)); clear hi3 hb3 hk3; (go_wp2_with fail); (refine (bus_row_full.calls (w.heap.size + 1) ((put1 bit many (rd p x)).1) ((put1 bit many (rd p x)).2) _ _ _ w _ HI3.out Hb3.out rfl).mono ?_)
   (rintro e w4 ⟨rfl, hi4, hb4, hk4⟩); have HI4 := aM hi4; have Hb4 := aM hb4; (have Ho4 := aM (keepS78 HI3.out hk4 Ho3.out)); (have HOp4 := aM (keepS78 HI3.out hk4 HOp3.out)); clear hi4 hb4 hk4; (go_wp2_with ((with_reducible refine gate_builtin (b := .append) (xs := #[.tmp 21, .tmp 24]) rfl ?_); at_builtin; refine Kd.R_append (Kd.int .i64) (w0 := w) w.heap.size rfl (.tmp 21) (.tmp 24) 22 3 (.int .i64 0) 8 rfl Tryd.underlying22 info3 rfl z9 z3 v2 (xs ++ [rd p x]) (wrap64 (1 - rd p x)) [.int .i64 (wrap64 (1 - rd p x))] (fun k_ => some k_ ≠ (.slice (some ad) p.length cp : Value).ownBlock) (fun _ => False) rfl rfl ?aP (fun _ hk => hk.elim) ?aF ?aO ?aB ?aS ?aL ?_; (case aP => exact rfl); (case aB => exact Hb4.out); (case aF => exact (fun k_ hk => Kd.fresh' (Kd.R_lt HOp4.out) k_ hk)); (case aO => exact Ho4.out); (case aS => exact Hb4.out.size); (case aL => have := HL.out; have := HPL.out; simp; omega); intro v5 w5 ho1 hb1 hg1 hat1; have Ho5 := aM ho1; have Hb5 := aM hb1; have Hg5 := aM hg1; have Ha5 := aM hat1; clear ho1 hb1 hg1 hat1)); (have HOp5 := aM (Kd.R_after (ok := fun _ => True) HOp4.out Hg5.out Ha5.out)); (have HI5 := aM (IsS78.grown HI4.out Hg5.out (IsS78.own_ne HI4.out Ho4.out z9))); (refine (bus_row_put.calls (w.heap.size + 1) ((put1 bit many (rd p x)).1) ((put1 bit many (rd p x)).2) (wrap64 (1 - rd p x)) _ _ w _ HI5.out Hb5.out (put1_f _ _ _)).mono ?_); (rintro e w6 ⟨rfl, hi6, hb6, hk6⟩); have HI6 := aM hi6
   have Hb6 := aM hb6; (have Ho6 := aM (keepS78 HI5.out hk6 Ho5.out)); (have HOp6 := aM (keepS78 HI5.out hk6 HOp5.out)); clear hi6 hb6 hk6; (go_wp2_with fail); (go_roundg (gk - 1)); (case measure => have := HG.out; omega); (case rel => exact ⟨x + 1, xs ++ [rd p x] ++ [wrap64 (1 - rd p x)], (put1 (put1 bit many (rd p x)).1 (put1 bit many (rd p x)).2 (wrap64 (1 - rd p x))).1, (put1 (put1 bit many (rd p x)).1 (put1 bit many (rd p x)).2 (wrap64 (1 - rd p x))).2, rfl, by omega, by omega, ⟨by have := HG.out; omega⟩, ⟨by rw [← HE.out, HD.out, stuffed, if_pos H5.out]; simp⟩, ⟨by have := HL.out; simp; omega⟩, HI6, HOp6, Ho6, Hb6⟩)
def IsRd (w0 W : World) (g : Nat) (A : Option Addr) (n c : Nat) (at_ bit many : Int) : Prop := W.heap[g]? = some (.cells #[.slice A n c, .int .i64 at_, .int .i64 bit, .int .i64 many] 80 (0, 0)) ∧ w0.heap.size ≤ g
section
variable {w0 W W1 : World} {g : Nat} {A : Option Addr} {n c : Nat} {at_ bit many : Int}
theorem IsRd.alloc (h : IsRd w0 W g A n c at_ bit many) (o : Obj) : IsRd w0 (W.alloc o) g A n c at_ bit many := ⟨kAl h.1 o, h.2⟩
theorem IsRd.below (h : IsRd w0 W g A n c at_ bit many) (hb : Below W.heap.size W W1) : IsRd w0 W1 g A n c at_ bit many := ⟨kBl h.1 hb, h.2⟩
theorem IsRd.grown (h : IsRd w0 W g A n c at_ bit many) {row : Option Nat} (hg : W.grownBy W1 row) (hne : some g ≠ row) : IsRd w0 W1 g A n c at_ bit many := ⟨blk_grown h.1 hg hne, h.2⟩
theorem IsRd.set_1 (h : IsRd w0 W g A n c at_ bit many) (x : Int) : IsRd w0 (W.setCell ⟨g, 1, none⟩ (.int .i64 x)) g A n c x bit many := ⟨blk_put h.1 1 _ rfl, h.2⟩
theorem IsRd.set_2 (h : IsRd w0 W g A n c at_ bit many) (x : Int) : IsRd w0 (W.setCell ⟨g, 2, none⟩ (.int .i64 x)) g A n c at_ x many := ⟨blk_put h.1 2 _ rfl, h.2⟩
theorem IsRd.set_3 (h : IsRd w0 W g A n c at_ bit many) (x : Int) : IsRd w0 (W.setCell ⟨g, 3, none⟩ (.int .i64 x)) g A n c at_ bit x := ⟨blk_put h.1 3 _ rfl, h.2⟩
theorem IsRd.own_ne {base : Nat} {ok : Nat → Prop} {v : Value} {xs : List Int} (h : IsRd w0 W g A n c at_ bit many) (ho : Kd.R (Kd.int .i64) 3 W base ok v xs) : some g ≠ v.ownBlock := Kd.R_ne ho h.1 z9
theorem IsRd.keep {base : Nat} {ok : Nat → Prop} {v : Value} {xs : List Int} (h : IsRd w0 W g A n c at_ bit many) (hk : KeepBut W W1 g none) (ho : Kd.R (Kd.int .i64) 3 W base ok v xs) : Kd.R (Kd.int .i64) 3 W1 base ok v xs :=
  Kd.R_mono (Kd.R_keep (Kd.R_types ho h.1 z9) hk (fun _ hk => hk.2)) (fun _ hk => hk.1)
end
set_option maxHeartbeats 8000000 in
set_option maxRecDepth 100000 in
theorem row80_put.calls (g : Nat) (A : Option Addr) (n c : Nat) (at_ bit many b : Int) (w0 w : World) (hI : IsRd w0 w g A n c at_ bit many) (hB : Below w0.heap.size w0 w) :
    Calls Tryd.prog 92 #[.pointer (some ⟨g, 2, none⟩), .int .i64 b] w fun e w' => e = .returned (.tuple #[]) ∧ IsRd w0 w' g A n c at_ (put1 bit many b).1 (put1 bit many b).2 ∧ Below w0.heap.size w0 w' ∧ KeepBut w w' g none := by
  have HI0 := aM hI; (have HK := aM (KeepBut.refl w g none)); have HB := aM hB; clear hI hB; by_cases c3 : many > 0; rotate_left
  · (have c3b0 : decide (0 < many) = false := dF c3)
    (have E1 := aM (show put1 bit many b = (b, 1) by unfold put1; rw [if_neg c3])); clear c3; obtain ⟨HGz, hgz⟩ := HI0.out; (have hcz_2 : w.cell? ⟨g, 2, none⟩ = some (.int .i64 bit) := (bCl HGz 2).trans rfl); (have hcz_3 : w.cell? ⟨g, 3, none⟩ = some (.int .i64 many) := (bCl HGz 3).trans rfl); (have hfz_2 := bFr HGz 2); (have hfz_3 := bFr HGz 3); clear HGz hgz; (go_enter Tryd.func92, Tryd.ntmps92); go_wp2; (first | go_end0 | ((try simp only [Exit.inBlock, Exit.then]); refine bodyPost_ret (results_none rfl _ _ _) rfl ?_)); (exact ⟨by first | rfl | simp, by rw [E1.out]; repeat (first | exact HI0.out | apply IsRd.drewN | apply IsRd.drew | apply IsRd.set_1 | apply IsRd.set_2 | apply IsRd.set_3), by repeat (first | exact HB.out | apply bAl | apply pBd | apply bD1 | refine below_set ?_ HI0.out.2), by repeat (first | exact HK.out | apply KeepBut.set_ | apply keep_drewN | apply keep_drew | apply keep_alloc)⟩)
  (have c3b0 : decide (0 < many) = true := dT c3); by_cases c4 : bit = b; rotate_left
  · (have E1 := aM (show put1 bit many b = (b, 1) by unfold put1; rw [if_pos c3, if_neg c4])); (have c4b0 : (bit == b) = false := beq_eq_false_iff_ne.mpr c4); clear c3; obtain ⟨HGz, hgz⟩ := HI0.out; (have hcz_2 : w.cell? ⟨g, 2, none⟩ = some (.int .i64 bit) := (bCl HGz 2).trans rfl); (have hcz_3 : w.cell? ⟨g, 3, none⟩ = some (.int .i64 many) := (bCl HGz 3).trans rfl); (have hfz_2 := bFr HGz 2); (have hfz_3 := bFr HGz 3); clear HGz hgz; (go_enter Tryd.func92, Tryd.ntmps92); go_wp2; (first | go_end0 | ((try simp only [Exit.inBlock, Exit.then]); refine bodyPost_ret (results_none rfl _ _ _) rfl ?_)); (exact ⟨by first | rfl | simp, by rw [E1.out]; repeat (first | exact HI0.out | apply IsRd.drewN | apply IsRd.drew | apply IsRd.set_1 | apply IsRd.set_2 | apply IsRd.set_3), by repeat (first | exact HB.out | apply bAl | apply pBd | apply bD1 | refine below_set ?_ HI0.out.2), by repeat (first | exact HK.out | apply KeepBut.set_ | apply keep_drewN | apply keep_drew | apply keep_alloc)⟩)
  (have E1 := aM (show put1 bit many b = (bit, wrap64 (many + 1)) by unfold put1; rw [if_pos c3, if_pos c4])); (have c4b0 : (bit == b) = true := beq_iff_eq.mpr c4); clear c3 c4; obtain ⟨HGz, hgz⟩ := HI0.out; (have hcz_2 : w.cell? ⟨g, 2, none⟩ = some (.int .i64 bit) := (bCl HGz 2).trans rfl); (have hcz_3 : w.cell? ⟨g, 3, none⟩ = some (.int .i64 many) := (bCl HGz 3).trans rfl); (have hfz_2 := bFr HGz 2); (have hfz_3 := bFr HGz 3); clear HGz hgz; (go_enter Tryd.func92, Tryd.ntmps92); go_wp2; (first | go_end0 | ((try simp only [Exit.inBlock, Exit.then]); refine bodyPost_ret (results_none rfl _ _ _) rfl ?_)); (exact ⟨by first | rfl | simp, by rw [E1.out]; repeat (first | exact HI0.out | apply IsRd.drewN | apply IsRd.drew | apply IsRd.set_1 | apply IsRd.set_2 | apply IsRd.set_3), by repeat (first | exact HB.out | apply bAl | apply pBd | apply bD1 | refine below_set ?_ HI0.out.2), by repeat (first | exact HK.out | apply KeepBut.set_ | apply keep_drewN | apply keep_drew | apply keep_alloc)⟩)
set_option maxHeartbeats 8000000 in
set_option maxRecDepth 100000 in
theorem row80_full.calls (g : Nat) (A : Option Addr) (n c : Nat) (at_ bit many : Int) (w0 w : World) (hI : IsRd w0 w g A n c at_ bit many) :
    Calls Tryd.prog 50 #[.pointer (some ⟨g, 2, none⟩)] w fun e w' => e = .returned (.bool (many == 5)) ∧ Drawn0 w w' := by
  have HI0 := aM hI
  clear hI
  have hcz_3 : w.cell? ⟨g, 3, none⟩ = some (.int .i64 many) := (bCl HI0.out.1 3).trans rfl
  go_enter Tryd.func50, Tryd.ntmps50
  go_wp2
  go_ret
  exact ⟨by first | rfl | simp, by repeat (first | exact Drawn0.refl _ | apply Drawn0.step)⟩
def nextOk (l : List Int) (at_ want : Int) : Bool := !(at_ == l.length || (decide (want ≥ 0) && rd l at_ != want))
set_option maxHeartbeats 8000000 in
set_option maxRecDepth 100000 in
theorem reader_next_no.calls (g : Nat) (A : Option Addr) (c : Nat) (l : List Int) (at_ bit many want : Int) (w0 w : World) (hI : IsRd w0 w g A l.length c at_ bit many) (hB : Below w0.heap.size w0 w) (hr : Kd.C (Kd.int .i64) w A l.length l) (h0 : 0 ≤ at_) (h1 : at_ ≤ l.length) (h : nextOk l at_ want = false) :
    Calls Tryd.prog 47 #[.pointer (some ⟨g, 0, none⟩), .int .i64 want] w fun e w' => e = .returned (.tuple #[.int .i64 0, .bool false]) ∧ Drawn0 w w' := by
  have HI0 := aM hI; have HB := aM hB; have HR := aM hr; clear hI hB hr; by_cases he : at_ = l.length
  · (have e1 : (at_ == (l.length : Int)) = true := beq_iff_eq.2 he); clear h0 h1 h he; obtain ⟨HGz, hgz⟩ := HI0.out; (have hcz_0 : w.cell? ⟨g, 0, none⟩ = some (.slice A l.length c) := (bCl HGz 0).trans rfl); (have hcz_1 : w.cell? ⟨g, 1, none⟩ = some (.int .i64 at_) := (bCl HGz 1).trans rfl); (have hfz_1 := bFr HGz 1); clear HGz hgz; (go_enter Tryd.func47, Tryd.ntmps47); go_wp2; (repeat (go_quiet (fail); go_wp2)); go_ret2; (exact ⟨by first | rfl | simp, by repeat (first | exact Drawn0.refl _ | apply Drawn0.step)⟩)
  (have hlt : at_ < l.length := by omega); (have e1 : (at_ == (l.length : Int)) = false := beq_eq_false_iff_ne.2 he)
  have hw : (decide (want ≥ 0) && rd l at_ != want) = true := by
    unfold nextOk at h
    rw [e1] at h
    simpa using h
  rw [Bool.and_eq_true] at hw; obtain ⟨hw1, hw2⟩ := hw; (have hw3 : decide (0 ≤ want) = true := hw1); (have hw4 := oD hw3); clear h hw1 he; (obtain ⟨ad, e0, hx⟩ := Kd.at_int HR.out at_ h0 hlt); cases e0; obtain ⟨HGz, hgz⟩ := HI0.out; (have hcz_0 : w.cell? ⟨g, 0, none⟩ = some (.slice (some ad) l.length c) := (bCl HGz 0).trans rfl); (have hcz_1 : w.cell? ⟨g, 1, none⟩ = some (.int .i64 at_) := (bCl HGz 1).trans rfl); (have hfz_1 := bFr HGz 1); clear HGz hgz; (go_enter Tryd.func47, Tryd.ntmps47); go_wp2; (repeat (go_quiet (fail); go_wp2)); go_ret2; (exact ⟨by first | rfl | simp, by repeat (first | exact Drawn0.refl _ | apply Drawn0.step)⟩)
set_option maxHeartbeats 8000000 in
set_option maxRecDepth 100000 in
theorem reader_next_yes.calls (g : Nat) (A : Option Addr) (c : Nat) (l : List Int) (at_ bit many want : Int) (w0 w : World) (hI : IsRd w0 w g A l.length c at_ bit many) (hB : Below w0.heap.size w0 w) (hr : Kd.C (Kd.int .i64) w A l.length l) (h0 : 0 ≤ at_) (h1 : at_ ≤ l.length) (h : nextOk l at_ want = true) :
    Calls Tryd.prog 47 #[.pointer (some ⟨g, 0, none⟩), .int .i64 want] w fun e w' => e = .returned (.tuple #[.int .i64 (rd l at_), .bool true]) ∧ IsRd w0 w' g A l.length c (at_ + 1) (put1 bit many (rd l at_)).1 (put1 bit many (rd l at_)).2 ∧ Below w0.heap.size w0 w' ∧ KeepBut w w' g none := by
  have HI0 := aM hI; have HB := aM hB; have HR := aM hr; (have HK := aM (KeepBut.refl w g none)); clear hI hB hr
  have e1 : (at_ == (l.length : Int)) = false := by
    unfold nextOk at h
    cases e : (at_ == (l.length : Int))
    · rfl
    · rw [e] at h; simp at h
  (have hlt : at_ < l.length := by have := beq_eq_false_iff_ne.1 e1; omega); (have hll : (l.length : Int) ≤ 9223372036854775807 := by have := HR.out.2.1; omega); (obtain ⟨ad, e0, hx⟩ := Kd.at_int HR.out at_ h0 hlt); cases e0; by_cases hw0 : 0 ≤ want; rotate_left
  · (have hw3 : decide (0 ≤ want) = false := by simpa using hw0); clear h; obtain ⟨HGz, hgz⟩ := HI0.out; (have hcz_0 : w.cell? ⟨g, 0, none⟩ = some (.slice (some ad) l.length c) := (bCl HGz 0).trans rfl); (have hcz_1 : w.cell? ⟨g, 1, none⟩ = some (.int .i64 at_) := (bCl HGz 1).trans rfl); (have hfz_1 := bFr HGz 1); clear HGz hgz; (go_enter Tryd.func47, Tryd.ntmps47); (go_wp2_with fail); (repeat (go_quiet (fail); go_wp2_with fail)); (refine (row80_put.calls g (some ad) l.length c (at_ + 1) bit many (rd l at_) w0 _ ?s1 ?s2).mono ?_); (case s1 => repeat (first | exact HI0.out | apply IsRd.drewN | apply IsRd.drew | apply IsRd.set_1)); (case s2 => repeat (first | exact HB.out | apply bAl | apply pBd | apply bD1 | refine below_set ?_ HI0.out.2)); (rintro e w2 ⟨rfl, hi, hb, hk⟩); have HI2 := aM hi; have HB2 := aM hb; have HK2 := aM hk; clear hi hb hk; (go_wp2_with fail); go_ret2; (exact ⟨by first | rfl | simp, HI2.out, HB2.out, KeepBut.trans (by repeat (first | exact HK.out | apply KeepBut.set_ | apply keep_drewN | apply keep_drew | apply keep_alloc)) HK2.out (.inl rfl)⟩)
  have hw2 : (rd l at_ != want) = false := by
    unfold nextOk at h
    rw [e1] at h
    simpa [hw0] using h
  clear h; obtain ⟨HGz, hgz⟩ := HI0.out; (have hcz_0 : w.cell? ⟨g, 0, none⟩ = some (.slice (some ad) l.length c) := (bCl HGz 0).trans rfl); (have hcz_1 : w.cell? ⟨g, 1, none⟩ = some (.int .i64 at_) := (bCl HGz 1).trans rfl); (have hfz_1 := bFr HGz 1); clear HGz hgz; (go_enter Tryd.func47, Tryd.ntmps47); (go_wp2_with fail); (repeat (go_quiet (fail); go_wp2_with fail)); (refine (row80_put.calls g (some ad) l.length c (at_ + 1) bit many (rd l at_) w0 _ ?s1 ?s2).mono ?_); (case s1 => repeat (first | exact HI0.out | apply IsRd.drewN | apply IsRd.drew | apply IsRd.set_1)); (case s2 => repeat (first | exact HB.out | apply bAl | apply pBd | apply bD1 | refine below_set ?_ HI0.out.2)); (rintro e w2 ⟨rfl, hi, hb, hk⟩); have HI2 := aM hi; have HB2 := aM hb; have HK2 := aM hk; clear hi hb hk; (go_wp2_with fail); go_ret2; (exact ⟨by first | rfl | simp, HI2.out, HB2.out, KeepBut.trans (by repeat (first | exact HK.out | apply KeepBut.set_ | apply keep_drewN | apply keep_drew | apply keep_alloc)) HK2.out (.inl rfl)⟩)
def Seen (w : World) (b n : Nat) (xs : List Int) : Prop :=
  ∃ D : DataW Unit, Maps.IsMap D ∧ w.ownsMap Tryd.prog 3 (plainElem Tryd.prog 4) b n D ∧ ∀ x : Int, (Lit.int .i64 x).wf = true → D.atKey (.int .i64 x) (.lit (.bool false)) = .lit (.bool (xs.contains x))
theorem Seen.made (w : World) : Seen (w.alloc (.map #[] 0)) w.heap.size 0 [] :=
  ⟨.map [], Maps.isMap_empty, World.ownsMap_made w _ _ _, fun x _ => rfl⟩
theorem plainElem_bool {e : TypeId} (he : Tryd.prog.underlying e = some .bool) (x : Bool) : plainElem (H := Unit) Tryd.prog e (.bool x) = some (.lit (.bool x), []) := by
  simp [plainElem, he]
theorem plainElem_bool_inv {e : TypeId} (he : Tryd.prog.underlying e = some .bool) {v : Value} {z : DataW Unit × List MemPlace} (h : plainElem Tryd.prog e v = some z) : ∃ x, v = .bool x ∧ z = (.lit (.bool x), []) := by
  unfold plainElem at h
  rw [he] at h
  cases v <;> simp at h
  exact ⟨_, rfl, h.symm⟩
theorem Seen.alloc {w : World} {b n : Nat} {xs : List Int} (h : Seen w b n xs) (o : Obj) : Seen (w.alloc o) b n xs := by
  obtain ⟨D, h1, h2, h3⟩ := h
  exact ⟨D, h1, h2.alloc o, h3⟩
theorem Seen.below {w w' : World} {b n : Nat} {xs : List Int} (h : Seen w b n xs) (hb : Below w.heap.size w w') : Seen w' b n xs := by
  obtain ⟨D, h1, ⟨es, clock, e1, e2, e3, e4⟩, h3⟩ := h
  exact ⟨D, h1, ⟨es, clock, kBl e1 hb, e2, e3, e4⟩, h3⟩
theorem Seen.lt {w : World} {b n : Nat} {xs : List Int} (h : Seen w b n xs) : b < w.heap.size := by
  obtain ⟨D, h1, ⟨es, clock, e1, e2, e3, e4⟩, h3⟩ := h
  exact blk_lt e1
theorem wpList_put_seen (w : World) {ops : Array Oper} {rest : List Oper} {o : Oper} {a : Act} {Q : Exit → Act → World → Prop}
    (hg : o.guard = none) (m x v : Operand) (hop : o.op = Op.mapUpdate 87 m x v) (b n : Nat) (xs : List Int) (z : Int) (hz : (Lit.int .i64 z).wf = true)
    (hm : a.eval m = .map (some b)) (hs : Seen w b n xs) (hn : n < maxLen) (hx : a.eval x = .int .i64 z) (hv : a.eval v = .bool true)
    (hK : ∀ w', Seen w' b (n + 1) (z :: xs) → w.grownBy w' (some b) → wpList Tryd.prog ops Q rest (a.put o.dst undef) w') :
    wpList Tryd.prog ops Q (o :: rest) a w := by
  obtain ⟨D, h1, h2, h3⟩ := hs
  refine wpList_mapUpdate_own w hg m x v 87 hop 3 4 (Maps.int_keyed Tryd.underlying3) Tryd.underlying87 (plainElem Tryd.prog 4) b n D hm h2 hn (.int .i64 z) (.bool true) (.int .i64 z) hx hv (Maps.keyOf_int_mk Tryd.underlying3 hz) (.lit (.bool true)) [] (plainElem_bool Tryd.underlying4 true) fun w' h2' hgr => hK w' ⟨_, ?_, h2', fun y hy => ?_⟩ hgr
  · exact Maps.IsMap.put h1 _ _
  · by_cases he : y = z
    · subst he
      rw [Maps.atKey_put_same (k := .int .i64 y) h1 trivial]
      simp
    · rw [Maps.atKey_put_other (by simpa using he), h3 y hy]
      simp [he]
theorem Seen.lookup_run {W : World} {b n : Nat} {xs : List Int} {z : Int} (hz : (Lit.int .i64 z).wf = true) (hs : Seen W b n xs) :
    (Instr.lookup 87 (.map (some b)) (.int .i64 z) false).run Tryd.prog W = .ok (.bool (xs.contains z)) W := by
  obtain ⟨D, h1, h2, h3⟩ := hs
  obtain ⟨v, ps, hrun, hv⟩ := h2.lookup (Maps.int_keyed Tryd.underlying3) Tryd.underlying87 (zd := .lit (.bool false)) (zp := []) (z := .bool false) z5 (plainElem_bool Tryd.underlying4 false) (Maps.keyOf_int_mk Tryd.underlying3 hz)
  obtain ⟨c, rfl, hc⟩ := plainElem_bool_inv Tryd.underlying4 hv
  simp only [Prod.mk.injEq] at hc
  have hcc : c = xs.contains z := by
    have := (h3 z hz).symm.trans hc.1
    simpa using this.symm
  rw [← hcc]
  exact hrun
def vB (x : S24) : Bool := decide (0 ≤ x.f0) && decide (x.f0 ≤ 2047) && decide (x.f1.length ≤ 8) && !x.f1.any (fun x => decide (x < 0) || decide (255 < x))
def nvB (x : S24) : Bool := !vB x
set_option maxHeartbeats 400000 in
set_option maxRecDepth 100000 in
theorem f58.calls (x : S24) (A : Option Addr) (c : Nat) (w : World) (hr : Kd.C (Kd.int .i64) w A x.f1.length x.f1) (hc : x.f1.length ≤ c) :
    Calls Tryd.prog 58 #[.agg #[.int .i64 x.f0, .slice A x.f1.length c]] w fun e w' => e = .returned (.bool (nvB x)) ∧ Below w.heap.size w w' := by
  have HB := aM (bAl (Below.refl w.heap.size w) (.cells #[.int .i64 x.f0, .slice A x.f1.length c] 24))
  have HV := aM (bus_valid.calls x.f0 A c x.f1 (vB x) (w.alloc (.cells #[.int .i64 x.f0, .slice A x.f1.length c] 24)) (Kd.C_below hr (bAl (Below.refl _ _) _)) hc rfl)
  have hn : nvB x = !vB x := rfl
  have HN := aM hn
  have hu24 := Tryd.underlying24
  clear hr hn
  generalize vB x = b at HV HN
  go_enter Tryd.func58, Tryd.ntmps58
  go_wp2_with (first | (go_at_call 44; refine HV.out.mono ?_; rintro e w1 ⟨rfl, b1⟩; replace b1 := aM (bSt HB.out b1)))
  go_ret
  exact ⟨by rw [HN.out]; first | rfl | simp, b1.out⟩
set_option maxHeartbeats 1000000 in
set_option maxRecDepth 100000 in
theorem IndexFunc_frame.calls (A0 : Option Addr) (c0 : Nat) (l0 : List S24) (w : World) (hr0 : Kd.C k24 w A0 l0.length l0) (hc0 : l0.length ≤ c0) :
    Calls Tryd.prog 94 #[.slice A0 l0.length c0, .func (.func 58) #[] #[]] w fun e w' => e = .returned (.int .i64 (idxOf nvB l0)) ∧ Below w.heap.size w w' := by
  have HR0 := aM hr0; have HC0 := aM hc0; clear hr0 hc0; (have hlen : (l0.length : Int) ≤ 9223372036854775807 := by have := HR0.out.2.1; omega); have hu24 := Tryd.underlying24; (go_enter Tryd.func94, Tryd.ntmps94); go_wp2; (go_loopg [8] l0.length (fun g v8 w' => ∃ k : Int, v8 = .int .i64 k ∧ 0 ≤ k ∧ k ≤ l0.length ∧ Aside0 (g = l0.length - k.toNat) ∧ Aside0 (∀ j : Nat, j < k.toNat → nvB (l0.getD j z24) = false) ∧ Aside0 (Below w.heap.size w w'))); (case atStart => exact ⟨0, rfl, by omega, by omega, ⟨by simp⟩, ⟨fun j hj => by simp at hj⟩, ⟨Below.refl _ _⟩⟩)
  case round =>
   obtain ⟨k, rfl, hk0, hk, HG, HP, HB⟩ := hrel; by_cases hlt : k < l0.length; rotate_left
   · have hn : idxOf nvB l0 = -1 := by
       haveI : Inhabited S24 := ⟨z24⟩
       exact idxOf_none nvB l0 (fun j hj => HP.out j z3)
     have HN := aM hn; clear hn; (go_wp2_with fail); go_ret; (exact ⟨by rw [HN.out]; first | rfl | simp, HB.out⟩)
   (obtain ⟨ad, A1, c1, e0, hx0, hx1, hc1, hd⟩ := at_T24 HR0.out k hk0 hlt); cases e0; (replace hx0 := kpc HB.out hx0); (replace hx1 := kpc HB.out hx1); (have HV := aM (f58.calls (rd_T24 l0 k) A1 c1 wr (Kd.C_below hd HB.out) hc1)); clear hd hc1; (have HK : nvB (rd_T24 l0 k) = nvB (l0.getD k.toNat z24) := rfl); (cases hpx : nvB (rd_T24 l0 k)); rotate_left
   · rw [hpx] at HV; (have HX := aM (HK.symm.trans hpx)); clear hpx HK; (go_wp2_with (first | (go_at_call 58; refine HV.out.mono ?_; rintro e w' ⟨rfl, b1⟩; replace HB := aM (bSt HB.out b1); clear b1))); go_ret; (have hid : idxOf nvB l0 = k := idxOf_some nvB l0 k hk0 hlt HX.out HP.out); (exact ⟨by simp [hid], HB.out⟩)
   rw [hpx] at HV; (have HX := aM (HK.symm.trans hpx)); clear hpx HK; (go_wp2_with (first | (go_at_call 58; refine HV.out.mono ?_; rintro e w' ⟨rfl, b1⟩; replace HB := aM (bSt HB.out b1); clear b1))); (go_roundg (gk - 1)); (case measure => have := HG.out; omega)
   case rel => exact ⟨k + 1, rfl, by omega, by omega, ⟨by have := HG.out; omega⟩, ⟨fun j hj => by
     rcases Nat.lt_or_ge j k.toNat with h | h
     · exact HP.out j h
     · have : j = k.toNat := by omega
       subst this
       exact HX.out⟩, ⟨HB.out⟩⟩
set_option maxHeartbeats 1000000 in
theorem ContainsFunc_frame.calls (A0 : Option Addr) (c0 : Nat) (l0 : List S24) (w : World) (hr0 : Kd.C k24 w A0 l0.length l0) (hc0 : l0.length ≤ c0) :
    Calls Tryd.prog 57 #[.slice A0 l0.length c0, .func (.func 58) #[] #[]] w fun e w' => e = .returned (.bool (l0.any nvB)) ∧ Below w.heap.size w w' := by
  have HI := aM (IndexFunc_frame.calls A0 c0 l0 w hr0 hc0)
  have HG := aM (idxOf_ge nvB l0)
  clear hr0 hc0
  go_enter Tryd.func57, Tryd.ntmps57
  go_wp2_with (go_at_call 94; refine HI.out.mono ?_; rintro e w' ⟨rfl, b1⟩; replace b1 := aM b1)
  go_ret
  exact ⟨by rw [← HG.out]; first | rfl | simp, b1.out⟩
def noAt (l : List S24) (i : Nat) : Int := (l.getD i z24).f0
def bestOf (l : List S24) : Nat → Nat
  | 0 => 0
  | k + 1 => if noAt l k < noAt l (bestOf l k) then k else bestOf l k
def nosOf (l : List S24) : Nat → List Int
  | 0 => []
  | k + 1 => noAt l k :: nosOf l k
def dupOf (l : List S24) : Nat → Bool
  | 0 => false
  | k + 1 => dupOf l k || (nosOf l k).contains (noAt l k)
def diffFrom (b won : List Int) : Nat → Nat → Option Nat
  | 0, _ => none
  | n + 1, k => if k < b.length ∧ k < won.length then (if b.getD k 0 = won.getD k 0 then diffFrom b won n (k + 1) else some k) else none
def sentOf (l : List S24) (best : Nat) (won : List Int) : Nat → Option Int
  | 0 => some 0
  | i + 1 => (sentOf l best won i).bind fun s => if i = best then some s else
      (bus_bitsOf.f (l.getD i z24).f0 (l.getD i z24).f1).bind fun b => (diffFrom b won (b.length + 1) 0).bind fun k => some (max s ((k : Int) + 1))
def bus_Wins.f (l : List S24) : Option (Int × Int × Int) :=
  if l.length = 0 then some (0, 0, 2) else if 20 < l.length then some (0, 0, 2) else if l.any nvB then some (0, 0, 2) else if dupOf l l.length then some (0, 0, 2) else
  (bus_bitsOf.f (l.getD (bestOf l l.length) z24).f0 (l.getD (bestOf l l.length) z24).f1).bind fun won =>
    (sentOf l (bestOf l l.length) won l.length).bind fun s => some ((bestOf l l.length : Int), s, 0)
theorem noAt_wf (l : List S24) (h : l.any nvB = false) (i : Nat) (hi : i < l.length) : (Lit.int .i64 (noAt l i)).wf = true := by
  have hv : nvB (l[i]) = false := by
    have := List.any_eq_false.1 h l[i] (List.getElem_mem hi)
    simpa using this
  have e : noAt l i = l[i].f0 := by unfold noAt; rw [List.getD_eq_getElem?_getD, List.getElem?_eq_getElem hi]; rfl
  rw [e]
  simp only [nvB, vB, Bool.not_eq_eq_eq_not, Bool.not_false, Bool.and_eq_true, decide_eq_true_eq] at hv
  have h1 : 0 ≤ l[i].f0 := hv.1.1.1
  have h2 : l[i].f0 ≤ 2047 := hv.1.1.2
  simp only [Lit.wf, Bool.and_eq_true, decide_eq_true_eq]
  exact ⟨by show (-9223372036854775808 : Int) ≤ _; omega, by show _ ≤ (9223372036854775807 : Int); omega⟩
theorem dupOf_mono (l : List S24) (k : Nat) (h : dupOf l k = true) : ∀ n, k ≤ n → dupOf l n = true := by
  intro n hn
  induction n with
  | zero => obtain rfl : k = 0 := by omega
            exact h
  | succ n ih =>
    rcases Nat.lt_or_ge k (n + 1) with h1 | h1
    · unfold dupOf
      rw [ih z3]; rfl
    · obtain rfl : k = n + 1 := by omega
      exact h
theorem sentOf_none (l : List S24) (best : Nat) (won : List Int) (k : Nat) (h : sentOf l best won k = none) : ∀ n, k ≤ n → sentOf l best won n = none := by
  intro n hn
  induction n with
  | zero => obtain rfl : k = 0 := by omega
            exact h
  | succ n ih =>
    rcases Nat.lt_or_ge k (n + 1) with h1 | h1
    · unfold sentOf
      rw [ih z3]; rfl
    · obtain rfl : k = n + 1 := by omega
      exact h
theorem sentOf_le (l : List S24) (best : Nat) (won : List Int) (n : Nat) (s : Int) (h : sentOf l best won n = some s) (k : Nat) (hk : k ≤ n) : ∃ s', sentOf l best won k = some s' := by
  cases h' : sentOf l best won k with
  | none => rw [sentOf_none l best won k h' n hk] at h; cases h
  | some s' => exact ⟨s', rfl⟩
set_option maxHeartbeats 1000000 in
set_option maxRecDepth 100000 in
theorem bus_Wins.calls (A0 : Option Addr) (c0 : Nat) (l0 : List S24) (r1 r2 r3 : Int) (w : World) (hr0 : Kd.C k24 w A0 l0.length l0) (hc0 : l0.length ≤ c0) (h : bus_Wins.f l0 = some (r1, r2, r3)) (ht : TailLaid w) :
    Calls Tryd.prog 22 #[.slice A0 l0.length c0] w fun e w' => e = .returned (.tuple #[.int .i64 r1, .int .i64 r2, .int .i64 r3]) ∧ Below w.heap.size w w' := by
  (have HI := aM (fun W => ContainsFunc_frame.calls A0 c0 l0 W)); have HR0 := aM hr0; have HC0 := aM hc0; have HT := aM ht; (have HB := aM (Below.refl w.heap.size w)); clear hr0 hc0 ht; (have hlen : (l0.length : Int) ≤ 9223372036854775807 := by have := HR0.out.2.1; omega); (unfold bus_Wins.f at h); by_cases h1 : l0.length = 0
  · rw [if_pos h1] at h; simp only [Option.some.injEq, Prod.mk.injEq] at h; obtain ⟨rfl, rfl, rfl⟩ := h; (have t1 : (((l0.length : Int)) == 0) = true := by simp [h1]); clear h1; (go_enter Tryd.func22, Tryd.ntmps22); go_wp2; go_ret3; (exact ⟨rfl, HB.out⟩)
  rw [if_neg h1] at h; (have t1 : (((l0.length : Int)) == 0) = false := by simpa using h1); have HN0 := aM h1; clear h1; by_cases h2 : 20 < l0.length
  · rw [if_pos h2] at h; simp only [Option.some.injEq, Prod.mk.injEq] at h; obtain ⟨rfl, rfl, rfl⟩ := h; (have t2 : decide (20 < l0.length) = true := dT h2); (have t3 : decide (20 < (l0.length : Int)) = true := dT z3); clear h2; (go_enter Tryd.func22, Tryd.ntmps22); go_wp2; go_ret3; (exact ⟨rfl, HB.out⟩)
  rw [if_neg h2] at h; (have t2 : decide (20 < l0.length) = false := dF h2); (have t3 : decide (20 < (l0.length : Int)) = false := dF z3); have HL20 := aM h2; clear h2; by_cases h3 : l0.any nvB = true
  · rw [if_pos h3] at h; simp only [Option.some.injEq, Prod.mk.injEq] at h; obtain ⟨rfl, rfl, rfl⟩ := h; have H3 := aM h3; clear h3; (go_enter Tryd.func22, Tryd.ntmps22); (go_wp2_with (first | (go_at_call 57; refine (HI.out _ (by repeat (first | exact HR0.out | (with_reducible refine Kd.C_drewN ?_ _))) HC0.out).mono ?_; rw [H3.out]; rintro e w1 ⟨rfl, b1⟩; replace HB := aM (bSt (by repeat (first | exact Below.refl _ _ | apply pBd)) b1); clear b1))); go_ret3; (exact ⟨rfl, HB.out⟩)
  rw [if_neg h3] at h; (replace h3 : l0.any nvB = false := by simpa using h3); have H3 := aM h3; have HH := aM h; clear h3 h; have hu24 := Tryd.underlying24; (have hmk : ∀ w : World, (Instr.makeMap 87 none).run Tryd.prog w = .ok (.map (some w.heap.size)) (w.alloc (.map #[] 0)) := fun w => by kernel_rfl); (go_enter Tryd.func22, Tryd.ntmps22); (go_wp2_with (first | (go_at_call 57; refine (HI.out _ (by repeat (first | exact HR0.out | (with_reducible refine Kd.C_drewN ?_ _))) HC0.out).mono ?_; rw [H3.out]; rintro e w1 ⟨rfl, b1⟩; replace HB := aM (bSt (by repeat (first | exact Below.refl _ _ | apply pBd)) b1); clear b1))); (have HS0 := aM (Seen.made w1)); have HBM := aM HB.out.size; (replace HB := aM (bAl HB.out (.map #[] 0))); (go_loopg [5, 30] l0.length (fun g v5 v30 w' => ∃ b k : Int, v5 = .int .i64 b ∧ v30 = .int .i64 k ∧ 0 ≤ k ∧ k ≤ l0.length ∧ 0 ≤ b ∧ b < l0.length ∧ Aside0 (b = (bestOf l0 k.toNat : Int)) ∧ Aside0 (g = l0.length - k.toNat) ∧ Aside0 (Seen w' w1.heap.size k.toNat (nosOf l0 k.toNat)) ∧ Aside0 (dupOf l0 k.toNat = false) ∧ Aside0 (Below w.heap.size w w'))); (case atStart => exact ⟨0, 0, rfl, rfl, by omega, by omega, by omega, by have := HN0.out; omega, ⟨rfl⟩, ⟨by simp⟩, ⟨HS0.out⟩, ⟨rfl⟩, ⟨HB.out⟩⟩)
  case round =>
   clear HB HS0; obtain ⟨b, k, rfl, rfl, hk0, hk, hb0, hb, HBE, HG, HS, HD, HB⟩ := hrel; (obtain ⟨adb, Ab, cb, e0, hy0, hy1, hcb, hdb⟩ := at_T24 HR0.out b hb0 hb); cases e0; by_cases hlt : k < l0.length
   · (obtain ⟨ad, A1, c1, e0, hx0, hx1, hc1, hd⟩ := at_T24 HR0.out k hk0 hlt); cases e0; clear hy1 hcb hdb hd hc1; (replace hx0 := kpc HB.out hx0); (replace hx1 := kpc HB.out hx1); (have HNO : Aside0 ((rd_T24 l0 k).f0 = noAt l0 k.toNat) := ⟨rfl⟩); (have HNB : Aside0 ((rd_T24 l0 b).f0 = noAt l0 b.toNat) := ⟨rfl⟩); (have HWF : Aside0 ((Lit.int .i64 (rd_T24 l0 k).f0).wf = true) := ⟨noAt_wf l0 H3.out k.toNat z3⟩); (generalize (rd_T24 l0 k).f0 = no at HNO HWF hx0); (generalize (rd_T24 l0 k).f1.length = n1 at hx1); (generalize (rd_T24 l0 b).f0 = nb at HNB hy0); (have HS1 : Aside0 (Seen (wr.alloc (.cells #[.int .i64 no, .slice A1 n1 c1] 24)) w1.heap.size k.toNat (nosOf l0 k.toNat)) := ⟨HS.out.alloc _⟩); (have HB1 : Aside0 (Below w.heap.size w (wr.alloc (.cells #[.int .i64 no, .slice A1 n1 c1] 24))) := ⟨bAl HB.out _⟩); (have hlk := Seen.lookup_run HWF.out HS1.out); (cases hdu : (nosOf l0 k.toNat).contains no); rotate_left
     · rw [hdu] at hlk; have HDU := aM hdu; clear hdu hy0; go_wp2; go_ret3; (have hd1 : dupOf l0 (k.toNat + 1) = true := by unfold dupOf; rw [← HNO.out, HDU.out]; simp); (have hd2 := dupOf_mono l0 _ hd1 l0.length z3); have h := HH.out; rw [if_pos hd2] at h; simp only [Option.some.injEq, Prod.mk.injEq] at h; obtain ⟨rfl, rfl, rfl⟩ := h; (exact ⟨rfl, HB1.out⟩)
     rw [hdu] at hlk; have HDU := aM hdu; have HY0 := aM hy0; clear hdu hy0; (go_wp2_with (first | (at_mapUpdate; refine wpList_put_seen _ rfl _ _ _ rfl w1.heap.size k.toNat (nosOf l0 k.toNat) no HWF.out rfl HS1.out (by have := HL20.out; unfold maxLen; omega) rfl rfl ?_))); (intro w2 hs2 hg2)
     have hz0 : w2.cell? ⟨wr.heap.size, 0, none⟩ = some (.int .i64 no) := by
       have e1 := hg2.block wr.heap.size (by rw [World.size_alloc]; omega) (by have := HS.out.lt; intro e; have e2 := sI e; omega)
       have e2 : w2.heap[wr.heap.size]? = some (.cells #[.int .i64 no, .slice A1 n1 c1] 24 (0, 0)) := e1.trans (blk_new _ _)
       exact (bCl e2 0).trans rfl
     (have HB2 : Aside0 (Below w.heap.size w w2) := ⟨HB1.out.grown hg2 HB1.out.size (fun k hk => by have e2 := sI hk; have := HBM.out; omega)⟩); (have hy0 : w2.cell? (adb.add (b.toNat * 2)) = some (.int .i64 nb) := (HB2.out.cell (World.block_lt_of_cell? w _ HY0.out)).trans HY0.out); have HS2 := aM hs2; clear hs2 hg2 hlk hx0 hx1 HY0 HB1 HS1; go_wp2; by_cases hcm : no < nb
     · (have t4 : decide (no < nb) = true := dT hcm); have HCM := aM hcm; clear hcm; (go_quiet (fail)); go_wp2; (go_roundg (gk - 1)); (case measure => have := HG.out; omega)
       case rel => exact ⟨k, k + 1, rfl, rfl, by omega, by omega, by omega, by omega, ⟨by
           have e : (k + 1).toNat = k.toNat + 1 := by omega
           have hbn : b.toNat = bestOf l0 k.toNat := by have := HBE.out; omega
           rw [e]; unfold bestOf; rw [← hbn, ← HNO.out, ← HNB.out, if_pos HCM.out]; omega⟩, ⟨by have := HG.out; omega⟩, ⟨by
           have e : (k + 1).toNat = k.toNat + 1 := by omega
           rw [e]; unfold nosOf; rw [← HNO.out]; exact HS2.out.below (by repeat (first | exact Below.refl _ _ | apply pBd | apply bD1))⟩, ⟨by
           have e : (k + 1).toNat = k.toNat + 1 := by omega
           rw [e]; unfold dupOf; rw [HD.out, ← HNO.out, HDU.out]; rfl⟩, ⟨by repeat (first | exact HB2.out | apply pBd | apply bD1)⟩⟩
     (have t4 : decide (no < nb) = false := dF hcm); have HCM := aM hcm; clear hcm; (go_quiet (fail)); go_wp2; (go_roundg (gk - 1)); (case measure => have := HG.out; omega)
     case rel => exact ⟨b, k + 1, rfl, rfl, by omega, by omega, by omega, by omega, ⟨by
         have e : (k + 1).toNat = k.toNat + 1 := by omega
         have hbn : b.toNat = bestOf l0 k.toNat := by have := HBE.out; omega
         rw [e]; unfold bestOf; rw [← hbn, ← HNO.out, ← HNB.out, if_neg (by have := HCM.out; omega)]; omega⟩, ⟨by have := HG.out; omega⟩, ⟨by
         have e : (k + 1).toNat = k.toNat + 1 := by omega
         rw [e]; unfold nosOf; rw [← HNO.out]; exact HS2.out.below (by repeat (first | exact Below.refl _ _ | apply pBd | apply bD1))⟩, ⟨by
         have e : (k + 1).toNat = k.toNat + 1 := by omega
         rw [e]; unfold dupOf; rw [HD.out, ← HNO.out, HDU.out]; rfl⟩, ⟨by repeat (first | exact HB2.out | apply pBd | apply bD1)⟩⟩
   (obtain rfl : k = l0.length := by omega); (have hkk : ((l0.length : Int)).toNat = l0.length := by omega); (have hdf : dupOf l0 l0.length = false := hkk ▸ HD.out); (have hbe : b.toNat = bestOf l0 l0.length := by have := HBE.out; rw [hkk] at this; omega); have h := HH.out; rw [hdf, ← hbe] at h; simp only [Bool.false_eq_true, if_false] at h; (obtain ⟨won, hwon, h⟩ := oB h); (obtain ⟨sN, hsN, h⟩ := oB h); simp only [Option.some.injEq, Prod.mk.injEq] at h; obtain ⟨hr1, rfl, rfl⟩ := h; (obtain rfl : b = r1 := by omega); have HSN := aM hsN; clear HS HD HBE HH hsN hdf hbe hr1 HBM HG H3; (replace hy0 := kpc HB.out hy0); (replace hy1 := kpc HB.out hy1); (have HV := aM (bus_bitsOf.calls (rd_T24 l0 b).f0 Ab cb (rd_T24 l0 b).f1 won wr (Kd.C_below hdb HB.out) hcb hwon (TailLaid.below HT.out HB.out))); clear hdb hcb hwon; (go_wp2_with (first | (go_at_call 45; refine HV.out.mono ?_; rintro e w3 ⟨v, rfl, hv, b3⟩; obtain ⟨Aw, cw, rfl, hcw, hrw⟩ := Kd.R_reads hv; clear hv; have HW := aM hrw; have HCW := aM hcw; have HB3 := aM (bSt HB.out b3); clear b3 hrw hcw HV hy0 hy1 HB))); (go_loopg [10, 59] l0.length (fun g v10 v59 w' => ∃ s i : Int, v10 = .int .i64 s ∧ v59 = .int .i64 i ∧ 0 ≤ i ∧ i ≤ l0.length ∧ Aside0 (g = l0.length - i.toNat) ∧ Aside0 (sentOf l0 b.toNat won i.toNat = some s) ∧ Aside0 (Below w.heap.size w w') ∧ Aside0 (Below w3.heap.size w3 w'))); (case atStart => exact ⟨0, 0, rfl, rfl, by omega, by omega, ⟨by simp⟩, ⟨rfl⟩, ⟨HB3.out⟩, ⟨Below.refl _ _⟩⟩)
   case round =>
    clear HB3; obtain ⟨s, i, rfl, rfl, hi0, hi, HG, HSI, HB, HB3⟩ := hrel; by_cases hlt2 : i < l0.length; rotate_left
    · (obtain rfl : i = l0.length := by omega); have h := HSI.out; rw [hkk, HSN.out] at h; (obtain rfl : sN = s := sI h); clear h; go_wp2; go_ret3; (exact ⟨rfl, HB.out⟩)
    (obtain ⟨ad, A1, c1, e0, hx0, hx1, hc1, hd⟩ := at_T24 HR0.out i hi0 hlt2); cases e0; (replace hx0 := kpc HB.out hx0); (replace hx1 := kpc HB.out hx1); by_cases hib : i = b
    · (have t5 : (i == b) = true := by simp [hib]); have HIB := aM hib; clear hib hd hc1; go_wp2; (go_roundg (gk - 1)); (case measure => have := HG.out; omega)
      case rel => exact ⟨s, i + 1, rfl, rfl, by omega, by omega, ⟨by have := HG.out; omega⟩, ⟨by
        have e : (i + 1).toNat = i.toNat + 1 := by omega
        rw [e]; unfold sentOf; rw [HSI.out]; simp only [Option.bind_some]; rw [if_pos (by have := HIB.out; omega)]⟩, ⟨bAl HB.out _⟩, ⟨bAl HB3.out _⟩⟩
    (have t5 : (i == b) = false := by simp [hib]); have HIB := aM hib; (have hsn := sentOf_le l0 b.toNat won l0.length sN HSN.out (i.toNat + 1) z3); obtain ⟨s', hs'⟩ := hsn; have hs2 := hs'; (unfold sentOf at hs2); rw [HSI.out] at hs2; (simp only [Option.bind_some, if_neg (show ¬ i.toNat = b.toNat by omega)] at hs2); (obtain ⟨bl, hbl, hs2⟩ := oB hs2); (obtain ⟨kd, hkd, hs2⟩ := oB hs2); simp only [Option.some.injEq] at hs2; have HS' := aM hs'; have HKD := aM hkd; have HS2 := aM hs2; clear hib hs' hkd hs2; (have HV := aM (bus_bitsOf.calls (rd_T24 l0 i).f0 A1 c1 (rd_T24 l0 i).f1 bl (wr.alloc (.cells #[.int .i64 (rd_T24 l0 i).f0, .slice A1 (rd_T24 l0 i).f1.length c1] 24)) (Kd.C_below hd (bAl HB.out _)) hc1 hbl (TailLaid.below HT.out (bAl HB.out _)))); clear hd hc1 hbl; (go_wp2_with (first | (go_at_call 45; refine HV.out.mono ?_; rintro e w5 ⟨v, rfl, hv, b5⟩; obtain ⟨Al, cl, rfl, hcl, hrl⟩ := Kd.R_reads hv; clear hv; have HL := aM hrl; have HCL := aM hcl; have HB5 := aM (bSt (bAl HB.out _) b5); have HB35 := aM (bSt (bAl HB3.out _) b5); clear b5 hrl hcl HV hx0 hx1 HB HB3))); (go_loopg [13] (bl.length + 1) (fun g v13 w' => ∃ k : Int, v13 = .int .i64 k ∧ 0 ≤ k ∧ k ≤ bl.length ∧ Aside0 (diffFrom bl won g k.toNat = some kd) ∧ Drawn0 w5 w')); (case atStart => exact ⟨0, rfl, by omega, by omega, ⟨HKD.out⟩, by repeat (first | exact Drawn0.refl _ | apply Drawn0.step)⟩)
    case round =>
     obtain ⟨k, rfl, hk0, hkb, HDF, ⟨m1, rfl⟩⟩ := hrel; have hdf := HDF.out
     cases hgi : gk with
     | zero => rw [hgi] at hdf; simp [diffFrom] at hdf
     | succ n =>
      rw [hgi] at hdf; (unfold diffFrom at hdf); have HGI := aM hgi; clear hgi HDF; by_cases hin : k.toNat < bl.length ∧ k.toNat < won.length; rotate_left
      · rw [if_neg hin] at hdf; cases hdf
      rw [if_pos hin] at hdf; (obtain ⟨adl, el, hxl⟩ := Kd.at_int HL.out k hk0 z3); cases el; (obtain ⟨adw, ew, hxw⟩ := Kd.at_int (Kd.C_below HW.out HB35.out) k hk0 z3); cases ew; (have hkl : k < bl.length := by omega); (have hkw : k < won.length := by omega); (replace hdf : (if rd bl k = rd won k then diffFrom bl won n (k.toNat + 1) else some k.toNat) = some kd := hdf); have HDF := aM hdf; (have HBL := aM (HL.out.2.1)); (have hbl64 : (bl.length : Int) ≤ 9223372036854775807 := by have := HBL.out; omega); clear hdf hin HBL; (generalize rd bl k = x at HDF hxl); (generalize rd won k = y at HDF hxw); by_cases hxy : x = y
      · (have t6 : (x == y) = true := by simp [hxy]); have hd2 := HDF.out; rw [if_pos hxy] at hd2; have HD2 := aM hd2; clear hd2 hxy HDF; go_wp2; (go_quiet (fail)); go_wp2; (go_roundg n); (case measure => have := HGI.out; omega)
        case rel => exact ⟨k + 1, rfl, by omega, by omega, ⟨by
          have e : (k + 1).toNat = k.toNat + 1 := by omega
          rw [e]; exact HD2.out⟩, by repeat (first | exact Drawn0.refl _ | apply Drawn0.step)⟩
      (have t6 : (x == y) = false := by simp [hxy]); have hd2 := HDF.out; rw [if_neg hxy] at hd2; (have HD2 := aM (sI hd2)); clear hd2 hxy HDF; go_wp2; (go_quiet (fail)); go_wp2
      case inr =>
       (go_roundg (l0.length - (i + 1).toNat)); (case measure => have := HG.out; omega)
       case rel => exact ⟨s, i + 1, rfl, rfl, by omega, by omega, ⟨rfl⟩, ⟨by
         have e : (i + 1).toNat = i.toNat + 1 := by omega
         have e2 : s' = s := by have h2 := HS2.out; have h3 := HD2.out; omega
         rw [e, HS'.out, e2]⟩, ⟨by repeat (first | exact HB5.out | apply pBd | apply bD1)⟩, ⟨by repeat (first | exact HB35.out | apply pBd | apply bD1)⟩⟩
      case inl =>
       (go_roundg (l0.length - (i + 1).toNat)); (case measure => have := HG.out; omega)
       case rel => exact ⟨(k + 1), i + 1, rfl, rfl, by omega, by omega, ⟨rfl⟩, ⟨by
         have e : (i + 1).toNat = i.toNat + 1 := by omega
         have e2 : s' = (k + 1) := by have h2 := HS2.out; have h3 := HD2.out; omega
         rw [e, HS'.out, e2]⟩, ⟨by repeat (first | exact HB5.out | apply pBd | apply bD1)⟩, ⟨by repeat (first | exact HB35.out | apply pBd | apply bD1)⟩⟩
end Go.Proofs.YtbanemecfobonaaDoor.B
namespace Go.Proofs.YtbanemecfobonaaDoor.B
open Go.Proofs.YtbanemecfobonaaDoorW.PrintWords Go.Proofs.YtbanemecfobonaaDoorW.PrintLast Go.Proofs.YtbanemecfobonaaDoorW.PrintMore Go.ChangeShapes Go.WideShapes Go.ChangeAt Go.RowKit
set_option linter.unusedVariables false
def laid : List (String × DataW Unit) := [("neonwright/bus.tail", Rows.laid_neonwright_bus_tail)]
theorem own : ownKnob Tryd.prog.godebug = none := by kernel_rfl
theorem laidOut : laidOutB Tryd.prog = true := by kernel_rfl
theorem gTail : Tryd.prog.globalNamed "neonwright/bus.tail" = some 0 := by kernel_rfl
theorem tTail : (Tryd.prog.globals[0]?).map (·.type) = some 22 := by kernel_rfl
theorem door_met (os : Os) (args : Array Value) : laidMetH Tryd.prog laid ((World.doorLaid Tryd.prog 400 os).forCall (fun _ _ => 0) ⟨#[], args, []⟩).memory :=
  laidMetH_of_parts3 (fuel := 8) (laidMet_of_run' 8 z5 z5) z5 z5
theorem of_laid {W : World} (h : laidMetH Tryd.prog laid W) : TailLaid W := by
  rw [MakeChecks.laidMetH_plain _ _ _ z5] at h; obtain ⟨ps, ⟨g0, t0, cs0, f0, p0, q0, hg0, ht0, hv0, hd0, _, _⟩, _, _⟩ := h; (obtain rfl := sI (gTail.symm.trans hg0)); (obtain rfl := sI (tTail.symm.trans ht0)); (rcases open_ints Tryd.underlying22 Tryd.underlying3 z5 hd0 with ⟨_, hx⟩ | ⟨x, l, c, zs, hcs, _, hl, hm, hz, hx, hcell, hwz⟩)
  · (simp [Rows.laid_neonwright_bus_tail] at hx)
  have hcl : W.cell? ⟨0, 0, none⟩ = some (.slice (some x) l c) := by
    have := World.var?_cell hg0 hv0 0
    rw [Array.eq_one_of_toList hcs] at this
    simpa using this
  have he : (lits .i64 (zs.take l) : List (DataW Unit)) = lits .i64 tailD := by
    have h1 := congrArg Prod.fst hx
    simp only [Rows.laid_neonwright_bus_tail, DataW.slice.injEq] at h1
    exact h1.1.symm
  have ht : zs.take l = tailD := by
    have h1 := congrArg (List.map (fun d : DataW Unit => match d with | .lit (.int _ n) => n | _ => 0)) he
    simpa [lits, Function.comp_def] using h1
  (have hzc : zs.length = c := by simpa using hz)
  have hl13 : l = 13 := by
    have h1 := congrArg List.length ht
    rw [List.length_take, tailD_length] at h1
    omega
  subst hl13; (refine ⟨some x, c, hcl, hl, Kd.C_of_reads (d := (0 : Int)) (h1 := fun _ => rfl) (show ReadsInt W .i64 (some x) 13 tailD from ⟨rfl, by omega, fun _ => ⟨x, rfl, fun j hj => ?_⟩⟩)⟩); rw [hcell j z3, ← ht, List.getD_eq_getElem?_getD, List.getD_eq_getElem?_getD, List.getElem?_take_of_lt hj]
end Go.Proofs.YtbanemecfobonaaDoor.B
namespace Go.Proofs.YtbanemecfobonaaDoor.B
open Go.Proofs.YtbanemecfobonaaDoorW.PrintWords Go.Proofs.YtbanemecfobonaaDoorW.PrintLast Go.Proofs.YtbanemecfobonaaDoorW.PrintMore Go.ChangeShapes Go.WideShapes Go.ChangeAt Go.RowKit Go.Joins Go.Deep
set_option linter.unusedVariables false
section
variable {H : Type} {enc : TypeId × Value → H} {w : World} {base : Nat} {held : Bool}
theorem ints_of_trod {fuel : Nat} {v : Value} {x : DataW H × List MemPlace} (h : DataW.trod enc Tryd.prog w base (fun _ => true) held fuel 22 [v] = some x) :
    ∃ (A : Option Addr) (l : List Int) (c : Nat), v = .slice A l.length c ∧ Kd.C (Kd.int .i64) w A l.length l ∧ l.length ≤ c ∧ l.length ≤ maxLen ∧ ∀ n ∈ l, (Lit.int .i64 n).wf = true := by
  rcases open_ints Tryd.underlying22 Tryd.underlying3 z5 h with ⟨hcs, _⟩ | ⟨a, l, c, zs, hcs, _, hl, hm, hz, _, hcell, hwz⟩
  · simp only [List.cons.injEq, and_true] at hcs
    exact ⟨none, [], 0, hcs, Kd.C_nil _ _, Nat.le_refl _, Nat.zero_le _, fun _ h => by simp at h⟩
  · simp only [List.cons.injEq, and_true] at hcs
    obtain ⟨zl, e, hr, hm', hw, hc'⟩ := ReadsInt.ofRowC (k := .i64) (w := w) (a := some a) (len := l) (cap := c) (zs := zs) (.inr ⟨a, rfl, hl, hm, by simpa using hz, hcell, hwz⟩)
    subst e
    exact ⟨some a, zl, c, hcs, Kd.C_of_reads (d := (0 : Int)) (h1 := fun _ => rfl) hr, hc', hm', hw⟩
end
section
variable {H : Type} {enc : TypeId × Value → H} {w : World} {base : Nat} {held : Bool}
theorem rows_of_trod {α : Type} (K : Kd α) (z : α) (t e : TypeId) (ht : Tryd.prog.underlying t = some (.slice e)) (hC : Tryd.prog.cellsOf e = K.sz)
    (each : ∀ (fuel : Nat) (cs : List Value) (x : DataW H × List MemPlace), cs.length = K.sz → DataW.trod enc Tryd.prog w base (fun _ => true) held fuel e cs = some x → ∃ y, K.K w y cs)
    {fuel : Nat} {v : Value} {x : DataW H × List MemPlace} (h : DataW.trod enc Tryd.prog w base (fun _ => true) held fuel t [v] = some x) :
    ∃ (A : Option Addr) (l : List α) (c : Nat), v = .slice A l.length c ∧ Kd.C K w A l.length l ∧ l.length ≤ c ∧ l.length ≤ maxLen := by
  (rcases open_slice ht h with ⟨hcs, _⟩ | ⟨a, len, cap, m, n, D, Pl, hcs, _, hl, hm, hmm, _, hi⟩)
  · simp only [List.cons.injEq, and_true] at hcs; (exact ⟨none, [], 0, hcs, Kd.C_nil _ _, Nat.le_refl _, Nat.zero_le _⟩)
  simp only [List.cons.injEq, and_true] at hcs; simp only [if_true] at hmm
  have one : ∀ i, ∃ y, i < len → ∃ cs, cs.length = K.sz ∧ K.K w y cs ∧ ∀ j u, cs[j]? = some u → w.cell? (a.add (i * K.sz + j)) = some u := by
    intro i
    by_cases hlt : i < len
    · obtain ⟨cs', hc, ht'⟩ := hi i z3
      rw [hC] at hc
      obtain ⟨_, hcl, hat⟩ := World.cells?_some hc
      obtain ⟨y, hy⟩ := each n cs' _ hcl ht'
      refine ⟨y, fun _ => ⟨cs', hcl, hy, fun j u hj => ?_⟩⟩
      have hjl : j < K.sz := by have := (List.getElem?_eq_some_iff.1 hj).1; omega
      rw [← Go.Deep.add_add, hat j hjl, hj]
    · exact ⟨z, fun h => absurd h hlt⟩
  (have hlen : ((List.range len).map fun i => (one i).choose).length = len := by simp); (refine ⟨some a, (List.range len).map fun i => (one i).choose, cap, by rw [hlen]; exact hcs, ⟨rfl, by rw [hlen]; unfold maxLen at hm; omega, fun _ => ⟨a, rfl, fun j p hp => ?_⟩⟩, by rw [hlen]; exact hl, by rw [hlen]; omega⟩)
  have hj : j < len := by
    have := (List.getElem?_eq_some_iff.1 hp).1
    rw [hlen] at this
    exact this
  rw [List.getElem?_map, List.getElem?_range hj] at hp; (obtain rfl := sI hp); (exact (one j).choose_spec hj)
end
section
variable {H : Type} {enc : TypeId × Value → H} {w : World} {base : Nat} {held : Bool}
set_option maxRecDepth 100000 in
theorem messages_of_trod {fuel : Nat} {v : Value} {x : DataW H × List MemPlace} (h : DataW.trod enc Tryd.prog w base (fun _ => true) held fuel 46 [v] = some x) :
    ∃ (A : Option Addr) (l : List S55) (c : Nat), v = .slice A l.length c ∧ Kd.C k55 w A l.length l ∧ l.length ≤ c ∧ l.length ≤ maxLen := by
  (refine rows_of_trod k55 z55 46 55 Tryd.underlying46 z5 (fun fuel cs x hcl ht => ?_) h); (obtain ⟨xs, n, _, rfl, hl, hlen, hf⟩ := DataW.trod_struct Tryd.underlying55 ht); (have hc1 : Tryd.prog.cellsOf 3 = 1 := by kernel_rfl); (have hsz : k55.sz = 4 := rfl); rw [hsz] at hcl
  match xs, hlen with
  | [y0, y1, y2, y3], _ =>
    match cs, hcl with
    | [v0, v1, v2, v3], _ =>
      have h0 : DataW.trod enc Tryd.prog w base (fun _ => true) held n 3 [v0] = some y0 := by
        have := hf 0 _ rfl
        simpa [hc1] using this
      have h1 : DataW.trod enc Tryd.prog w base (fun _ => true) held n 3 [v1] = some y1 := by
        have := hf 1 _ rfl
        simpa [hc1] using this
      have h2 : DataW.trod enc Tryd.prog w base (fun _ => true) held n 3 [v2] = some y2 := by
        have := hf 2 _ rfl
        simpa [hc1] using this
      have h3 : DataW.trod enc Tryd.prog w base (fun _ => true) held n 3 [v3] = some y3 := by
        have := hf 3 _ rfl
        simpa [hc1] using this
      obtain ⟨a, e0, _, _⟩ := DataW.trod_int Tryd.underlying3 h0
      obtain ⟨b, e1, _, _⟩ := DataW.trod_int Tryd.underlying3 h1
      obtain ⟨c, e2, _, _⟩ := DataW.trod_int Tryd.underlying3 h2
      obtain ⟨d, e3, _, _⟩ := DataW.trod_int Tryd.underlying3 h3
      replace e0 : v0 = .int .i64 a := by simpa using e0
      replace e1 : v1 = .int .i64 b := by simpa using e1
      replace e2 : v2 = .int .i64 c := by simpa using e2
      replace e3 : v3 = .int .i64 d := by simpa using e3
      subst e0 e1 e2 e3
      exact ⟨⟨a, b, c, d⟩, k55_mk w ⟨a, b, c, d⟩⟩
end
end Go.Proofs.YtbanemecfobonaaDoor.B
namespace Go.Proofs.YtbanemecfobonaaDoor.B
open Go.RowKit Go.Proofs.YtbanemecfobonaaDoorW.PrintWords Go.Proofs.YtbanemecfobonaaDoorW.PrintLast Go.Proofs.YtbanemecfobonaaDoorW.PrintMore
attribute [local go_sem] max2_int min2_int max_two min_two max_three min_three max_four min_four
set_option linter.unusedVariables false
set_option linter.unusedSimpArgs false
def bus_Bits.f (a0_0 : Int) (l0_1 : List Int) : Option (List Int × Int) := (bus_valid.f a0_0 l0_1).bind fun t162 => (if t162 = true then ((bus_bitsOf.f a0_0 l0_1).bind fun t163 => (some (t163, 0))) else (some (([] : List Int), 2)))
set_option maxHeartbeats 8000000 in
set_option maxRecDepth 100000 in
theorem bus_Bits.calls (a0_0 : Int) (A0_1 : Option Addr) (c0_1 : Nat) (l0_1 : List Int) (r1 : List Int) (r2 : Int) (w : World) (hr0_1 : Kd.C (Kd.int .i64) w A0_1 l0_1.length l0_1) (hc0_1 : l0_1.length ≤ c0_1) (h : bus_Bits.f a0_0 l0_1 = some (r1, r2)) (ht : TailLaid w) :
    Calls Tryd.prog 18 #[.agg #[.int .i64 a0_0, .slice A0_1 l0_1.length c0_1]] w fun e w' => ∃ v0_ : Value, e = .returned (.tuple #[v0_, .int .i64 r2]) ∧ Kd.R (Kd.int .i64) 3 w' w.heap.size (fun _ => True) v0_ r1 ∧ Below w.heap.size w w' := by
  have HT := aM ht; clear ht; have hu24 := Tryd.underlying24; have HR0_1 := aM hr0_1; have HC0_1 := aM hc0_1; clear hr0_1 hc0_1; (have HB := aM (Below.refl w.heap.size w)); (have H : ((bus_valid.f a0_0 l0_1).bind fun t162 => (if t162 = true then ((bus_bitsOf.f a0_0 l0_1).bind fun t163 => (some (t163, 0))) else (some (([] : List Int), 2)))) = some (r1, r2) := h); clear h; (replace H := oB H); obtain ⟨t162, A20, H⟩ := H; (replace H : (if t162 = true then ((bus_bitsOf.f a0_0 l0_1).bind fun t163 => (some (t163, 0))) else (some (([] : List Int), 2))) = some (r1, r2) := H); have A2 := aM A20; clear A20; by_cases c3 : t162 = true; rotate_left
  · (replace c3 := Bool.eq_false_iff.mpr c3); subst c3; (have H1 : (some (([] : List Int), 2)) = some (r1, r2) := by rw [if_neg (show ¬ (false = true) by decide)] at H; exact H); clear H; have H := H1; clear H1; simp only [Option.some.injEq, Prod.mk.injEq] at H; obtain ⟨rfl, rfl⟩ := H; (go_enter Tryd.func18, Tryd.ntmps18); (go_wp2_with (first | ((with_reducible refine gate_dst (N := 1) rfl ?_); refine box_event ?hg (N := 1) ?hd (cs := #[.int .i64 a0_0, .slice A0_1 l0_1.length c0_1]) (t := 24) ?hr ?_; (case hd => rfl); (case hg => rfl); (case hr => first | (go_simp; done) | (go_simp; rfl)); intro gb161 hg w10 hbox hb; have BK161 := aM (hbox); have GW161 := aM (geB hg : w.heap.size ≤ gb161); have GE161 := aM (geB hg : w.heap.size ≤ gb161); replace HB := aM (bSt bel0 hb); clear hb hbox hg; obtain ⟨hcz11_0, hcz11_1, hfz11_0, hfz11_1⟩ := bk2 BK161.out) | ((with_reducible refine gate_callee (f := 44) rfl ?_); refine goesL_ (some 5) rfl rfl Tryd.func44 z5 rfl #[.agg #[.int .i64 a0_0, .slice A0_1 l0_1.length c0_1]] rfl z1 ?_; (with_reducible refine (bus_valid.calls a0_0 _ _ l0_1 false _ ?side1 ?side2 A2.out).mono ?_); (case side1 => exact cA (Kd.C_below HR0_1.out HB.out)); (case side2 => exact HC0_1.out); rintro e w12 ⟨rfl, hb⟩; refine ⟨_, rfl, ?_⟩; replace BK161 := aM (blkB BK161.out hb); replace HB := aM (bSt bel0 hb); (try clear hb); (try clear hb2); (try clear hk); (try clear hi))))
    go_ret2; (exact ⟨_, by first | rfl | (simp [errW_none, errW_some] <;> rfl) | (simp [*, errW_none, errW_some] <;> rfl), by first | exact Kd.R_nil _ _ _ _ _ | exact Kd.N_nil _ _ _ _ _ | exact Kd.V_nil _ _ _ _ _ | exact Kd.Q_nil _ _ _ _ _ | exact Kd.S_nil _ _ _ _ _, bel0⟩)
  subst c3; (have H1 : ((bus_bitsOf.f a0_0 l0_1).bind fun t163 => (some (t163, 0))) = some (r1, r2) := by rw [if_pos rfl] at H; exact H); clear H; have H := H1; clear H1; (replace H := oB H); obtain ⟨t163, A40, H⟩ := H; (replace H : (some (t163, 0)) = some (r1, r2) := H); have A4 := aM A40; clear A40; simp only [Option.some.injEq, Prod.mk.injEq] at H; obtain ⟨rfl, rfl⟩ := H; (go_enter Tryd.func18, Tryd.ntmps18); (go_wp2_with (first | ((with_reducible refine gate_dst (N := 1) rfl ?_); refine box_event ?hg (N := 1) ?hd (cs := #[.int .i64 a0_0, .slice A0_1 l0_1.length c0_1]) (t := 24) ?hr ?_; (case hd => rfl); (case hg => rfl); (case hr => first | (go_simp; done) | (go_simp; rfl)); intro gb161 hg w5 hbox hb; have BK161 := aM (hbox); have GW161 := aM (geB hg : w.heap.size ≤ gb161); have GE161 := aM (geB hg : w.heap.size ≤ gb161); replace HB := aM (bSt bel0 hb); clear hb hbox hg; obtain ⟨hcz6_0, hcz6_1, hfz6_0, hfz6_1⟩ := bk2 BK161.out) | ((with_reducible refine gate_callee (f := 44) rfl ?_); refine goesL_ (some 5) rfl rfl Tryd.func44 z5 rfl #[.agg #[.int .i64 a0_0, .slice A0_1 l0_1.length c0_1]] rfl z1 ?_; (with_reducible refine (bus_valid.calls a0_0 _ _ l0_1 true _ ?side1 ?side2 A2.out).mono ?_); (case side1 => exact cA (Kd.C_below HR0_1.out HB.out)); (case side2 => exact HC0_1.out); rintro e w7 ⟨rfl, hb⟩; refine ⟨_, rfl, ?_⟩; replace BK161 := aM (blkB BK161.out hb); replace HB := aM (bSt bel0 hb); (try clear hb); (try clear hb2); (try clear hk); (try clear hi); obtain ⟨hcz8_0, hcz8_1, hfz8_0, hfz8_1⟩ := bk2 BK161.out) | ((with_reducible refine gate_callee (f := 45) rfl ?_); refine goesL_ (some 8) rfl rfl Tryd.func45 z5 rfl #[.agg #[.int .i64 a0_0, .slice A0_1 l0_1.length c0_1]] rfl z1 ?_; (with_reducible refine (bus_bitsOf.calls a0_0 _ _ l0_1 t163 _ ?side1 ?side2 A4.out (TailLaid.below HT.out (by repeat (first | (with_reducible first | exact HB.out | apply bAl | apply pBd | apply bD1) | exact HB.out | refine below_set ?_ GE161.out)))).mono ?_); (case side1 => exact cA (Kd.C_below HR0_1.out HB.out)); (case side2 => exact HC0_1.out); rintro e w9 ⟨v164, rfl, ho0, hb⟩; refine ⟨_, rfl, ?_⟩; have HO165 := aM (Kd.R_lower ho0 (bSz bel0)); replace BK161 := aM (blkB BK161.out hb); replace HB := aM (bSt bel0 hb); (try clear hb); (try clear hb2); (try clear hk); (try clear hi); (try clear ho0))))
  go_ret2; (exact ⟨_, by first | rfl | (simp [errW_none, errW_some] <;> rfl) | (simp [*, errW_none, errW_some] <;> rfl), rA HO165.out, bel0⟩)
def w8_same.l0 : Nat → List Int → List Int → Int → Option (Bool)
  | 0, _, _, _ => none
  | k + 1, x0, x1, x5 => if x5 < (x0.length : Int) then (if 0 ≤ x5 then (if x5 < (x1.length : Int) then (if (rd x0 x5) = (rd x1 x5) then (w8_same.l0 k x0 x1 (wrap64 (x5 + 1))) else (some false)) else (none)) else (none)) else (some true)
def w8_same.f (k : Nat) (l0 : List Int) (l1 : List Int) : Option (Bool) := if (l0.length : Int) = (l1.length : Int) then (w8_same.l0 k l0 l1 0) else (some false)
set_option maxHeartbeats 8000000 in
set_option maxRecDepth 100000 in
theorem w8_same.calls (k : Nat) (A0 : Option Addr) (c0 : Nat) (l0 : List Int) (A1 : Option Addr) (c1 : Nat) (l1 : List Int) (r : Bool) (w : World) (hr0 : Kd.C (Kd.int .i64) w A0 l0.length l0) (hc0 : l0.length ≤ c0) (hr1 : Kd.C (Kd.int .i64) w A1 l1.length l1) (hc1 : l1.length ≤ c1) (h : w8_same.f k l0 l1 = some r) :
    Calls Tryd.prog 19 #[.slice A0 l0.length c0, .slice A1 l1.length c1] w fun e w' => e = .returned (.bool r) ∧ Drawn0 w w' := by
  have HR0 := aM hr0; have HC0 := aM hc0; clear hr0 hc0; have HR1 := aM hr1; have HC1 := aM hc1; clear hr1 hc1; (have H : (if (l0.length : Int) = (l1.length : Int) then (w8_same.l0 k l0 l1 0) else (some false)) = some r := h); clear h; by_cases c3 : (l0.length : Int) = (l1.length : Int); rotate_left
  · rw [if_neg c3] at H; (have c3b0 : ((l0.length : Int) == (l1.length : Int)) = false := beq_eq_false_iff_ne.mpr c3); (have c3b1 : ((l0.length : Int) != (l1.length : Int)) = true := bne_iff_ne.mpr c3); (have c3b2 : (l0.length == l1.length) = false := by first | simpa using c3 | (simp at c3 ⊢; omega)); (obtain rfl := sI H); (go_enter Tryd.func19, Tryd.ntmps19); go_wp2; (repeat (go_quiet (fail); try go_wp2)); go_ret; (exact ⟨by first | rfl | (simp; done) | (simp [*]; done), by repeat (first | exact Drawn0.refl _ | apply Drawn0.step)⟩)
  rw [if_pos c3] at H; (have c3b0 : ((l0.length : Int) == (l1.length : Int)) = true := beq_iff_eq.mpr c3); (have c3b1 : ((l0.length : Int) != (l1.length : Int)) = false := bne_eq_false_iff_eq.mpr c3); (have c3b2 : (l0.length == l1.length) = true := by first | simpa using c3 | (simp at c3 ⊢; omega)); clear c3; have H' := aM H; clear H; (go_enter Tryd.func19, Tryd.ntmps19); go_wp2; (repeat (go_quiet (fail); try go_wp2)); (go_loopg [5] k (fun kq v5 w' => ∃ (x5_1 : Int), v5 = .int .i64 x5_1 ∧ Aside0 (w8_same.l0 kq l0 l1 x5_1 = some r) ∧ Aside0 (kq ≤ k) ∧ Drawn0 w w')); (case atStart => exact ⟨(0), z4, H', ⟨Nat.le_refl _⟩, by repeat (first | exact Drawn0.refl _ | apply Drawn0.step)⟩)
  case round =>
   clear H'; (try clear c1); (try clear p2); (try clear c3); (try clear c3b0); (try clear c3b1); (try clear c3b2); obtain ⟨x5_1, rfl, HA, HK1, ⟨m1, rfl⟩⟩ := hrel
   cases gk with
   | zero => exact absurd HA.out (by simp [w8_same.l0])
   | succ k1 =>
    have H := HA.out; clear HA; simp only [w8_same.l0] at H; by_cases c4 : x5_1 < (l0.length : Int); rotate_left
    · rw [if_neg c4] at H; (have c4b0 : decide (x5_1 < (l0.length : Int)) = false := dF c4); clear c4; (obtain rfl := sI H); go_wp2; (repeat (go_quiet (fail); try go_wp2)); go_ret; (exact ⟨by first | rfl | (simp; done) | (simp [*]; done), by repeat (first | exact Drawn0.refl _ | apply Drawn0.step)⟩)
    rw [if_pos c4] at H; (have c4b0 : decide (x5_1 < (l0.length : Int)) = true := dT c4); clear c4; by_cases c5 : 0 ≤ x5_1; rotate_left
    · rw [if_neg c5] at H; (exact absurd H (by simp))
    rw [if_pos c5] at H; (have c5b0 : decide (0 ≤ x5_1) = true := dT c5); clear c5; by_cases c6 : x5_1 < (l1.length : Int); rotate_left
    · rw [if_neg c6] at H; (exact absurd H (by simp))
    rw [if_pos c6] at H; (have c6b0 : decide (x5_1 < (l1.length : Int)) = true := dT c6); clear c6; by_cases c7 : (rd l0 x5_1) = (rd l1 x5_1); rotate_left
    · rw [if_neg c7] at H; (have c7b0 : ((rd l0 x5_1) == (rd l1 x5_1)) = false := beq_eq_false_iff_ne.mpr c7); (have c7b1 : ((rd l0 x5_1) != (rd l1 x5_1)) = true := bne_iff_ne.mpr c7); (obtain rfl := sI H); (have p166 : 0 ≤ (x5_1 : Int) := oD z2); (have q166 : x5_1 < (l0.length : Int) := oD z2); (obtain ⟨ad166, e166, hx166_0⟩ := Kd.at_int HR0.out x5_1 p166 q166); cases e166; (replace p166 := eq_true p166); (replace q166 := eq_true q166); (have p167 : 0 ≤ (x5_1 : Int) := oD z2); (have q167 : x5_1 < (l1.length : Int) := oD z2); (obtain ⟨ad167, e167, hx167_0⟩ := Kd.at_int HR1.out x5_1 p167 q167); cases e167; (replace p167 := eq_true p167); (replace q167 := eq_true q167); go_wp2; (repeat (go_quiet (fail); try go_wp2)); go_ret; (exact ⟨by first | rfl | (simp; done) | (simp [*]; done), by repeat (first | exact Drawn0.refl _ | apply Drawn0.step)⟩)
    rw [if_pos c7] at H; (have c7b0 : ((rd l0 x5_1) == (rd l1 x5_1)) = true := beq_iff_eq.mpr c7); (have c7b1 : ((rd l0 x5_1) != (rd l1 x5_1)) = false := bne_eq_false_iff_eq.mpr c7); clear c7; have H' := aM H; clear H; (have p166 : 0 ≤ (x5_1 : Int) := oD z2); (have q166 : x5_1 < (l0.length : Int) := oD z2); (obtain ⟨ad166, e166, hx166_0⟩ := Kd.at_int HR0.out x5_1 p166 q166); cases e166; (replace p166 := eq_true p166); (replace q166 := eq_true q166); (have p167 : 0 ≤ (x5_1 : Int) := oD z2); (have q167 : x5_1 < (l1.length : Int) := oD z2); (obtain ⟨ad167, e167, hx167_0⟩ := Kd.at_int HR1.out x5_1 p167 q167); cases e167; (replace p167 := eq_true p167); (replace q167 := eq_true q167); go_wp2; (repeat (go_quiet (fail); try go_wp2)); (go_roundg k1); (case measure => have := HK1.out; omega); (case rel => exact ⟨(wrap64 (x5_1 + 1)), z4, H', ⟨by have := HK1.out; omega⟩, by repeat (first | exact Drawn0.refl _ | apply Drawn0.step)⟩)
end Go.Proofs.YtbanemecfobonaaDoor.B
