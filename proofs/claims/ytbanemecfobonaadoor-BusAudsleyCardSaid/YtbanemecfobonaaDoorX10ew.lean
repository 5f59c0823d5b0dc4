/- Written by a program (lite.py) from my texts. -/
import Derived.Test.YtbanemecfobonaaDoorX10dw
namespace Go.Proofs.YtbanemecfobonaaDoor.B
open Go.RowKit Go.Proofs.YtbanemecfobonaaDoorW.PrintWords Go.Proofs.YtbanemecfobonaaDoorW.PrintLast Go.Proofs.YtbanemecfobonaaDoorW.PrintMore
set_option linter.unusedVariables false
set_option linter.unusedSimpArgs false
theorem drew_alloc1 (w : World) (o : Obj) : (w.alloc o).drew = w.drew.alloc o := rfl
structure EnvP (w W : World) (g2 g3 g6 : Nat) (A0 : Option Addr) (c0 n0 : Nat) (A1 : Option Addr) (c1 n1 : Nat) (vL : Value) (left : List Int) : Prop where
  b : Below w.heap.size w W
  h2 : W.heap[g2]? = some (.cells #[.slice A0 n0 c0] 46 (0, 0))
  h3 : W.heap[g3]? = some (.cells #[.slice A1 n1 c1] 22 (0, 0))
  h6 : W.heap[g6]? = some (.cells #[vL] 22 (0, 0))
  le6 : w.heap.size ≤ g6
  ne36 : g3 ≠ g6
  rL : Kd.R (Kd.int .i64) 3 W w.heap.size (fun _ => True) vL left
theorem blk_row {W W' : World} {α : Type} {d : Kd α} {e base : Nat} {ok : Nat → Prop} {v : Value} {xs : List α} {g : Nat} {cs : Array Value} {t : TypeId} (h : W.heap[g]? = some (.cells cs t (0, 0))) (hr : d.R e W base ok v xs) (hg : W.grownBy W' v.ownBlock) (ht : e ≠ t) : W'.heap[g]? = some (.cells cs t (0, 0)) := blk_grown h hg (Kd.R_ne hr h ht)
section
variable {w W W' : World} {g2 g3 g6 g9 : Nat} {A0 : Option Addr} {c0 n0 : Nat} {A1 : Option Addr} {c1 n1 : Nat} {vL vL' vO vO' vU vU' : Value} {left left' : List Int} {lose lose' : List S55} {out out' : List Int}
theorem EnvP.below (h : EnvP w W g2 g3 g6 A0 c0 n0 A1 c1 n1 vL left) (hb : Below W.heap.size W W') : EnvP w W' g2 g3 g6 A0 c0 n0 A1 c1 n1 vL left :=
  ⟨below_step h.b hb, blk_below h.h2 hb, blk_below h.h3 hb, blk_below h.h6 hb, h.le6, h.ne36, Kd.R_below h.rL hb⟩
theorem EnvP.store (h : EnvP w W g2 g3 g6 A0 c0 n0 A1 c1 n1 vL left) (hr : Kd.R (Kd.int .i64) 3 W' w.heap.size (fun _ => True) vL' left') (hb : Below w.heap.size w W') (hg : W.grownBy W' vL.ownBlock) : EnvP w (W'.setCell ⟨g6, 0, none⟩ vL') g2 g3 g6 A0 c0 n0 A1 c1 n1 vL' left' := by
  have e2 := blk_row h.h2 h.rL hg z10
  have e3 := blk_row h.h3 h.rL hg z10
  have e6 := blk_row h.h6 h.rL hg z10
  exact ⟨below_set hb h.le6, blk_far e2 (p := ⟨g6, 0, none⟩) (blk_ne e2 e6 z10) _, blk_far e3 (p := ⟨g6, 0, none⟩) h.ne36 _, blk_put e6 0 _ rfl, h.le6, h.ne36, Kd.R_set hr e6 (fun q hq => by
    have : q = 3 := by simpa [Kd.int, Kd.scalar] using hq
    subst this; decide) 0 _⟩
structure EnvQ (w W : World) (g2 g3 g6 g9 : Nat) (A0 : Option Addr) (c0 n0 : Nat) (A1 : Option Addr) (c1 n1 : Nat) (vL : Value) (left : List Int) (vO : Value) (lose : List S55) (vU : Value) (out : List Int) : Prop where
  p : EnvP w W g2 g3 g6 A0 c0 n0 A1 c1 n1 vL left
  h9 : W.heap[g9]? = some (.cells #[vO] 46 (0, 0))
  le9 : w.heap.size ≤ g9
  ne29 : g2 ≠ g9
  rO : Kd.R k55 55 W w.heap.size (fun _ => True) vO lose
  rU : Kd.R (Kd.int .i64) 3 W w.heap.size (fun k => some k ≠ vL.ownBlock) vU out
theorem EnvQ.below (h : EnvQ w W g2 g3 g6 g9 A0 c0 n0 A1 c1 n1 vL left vO lose vU out) (hb : Below W.heap.size W W') : EnvQ w W' g2 g3 g6 g9 A0 c0 n0 A1 c1 n1 vL left vO lose vU out :=
  ⟨h.p.below hb, blk_below h.h9 hb, h.le9, h.ne29, Kd.R_below h.rO hb, Kd.R_below h.rU hb⟩
theorem EnvQ.outs (h : EnvQ w W g2 g3 g6 g9 A0 c0 n0 A1 c1 n1 vL left vO lose vU out) (hb : Below W.heap.size W W') (hr : Kd.R (Kd.int .i64) 3 W' W.heap.size (fun _ => True) vU' out') : EnvQ w W' g2 g3 g6 g9 A0 c0 n0 A1 c1 n1 vL left vO lose vU' out' :=
  ⟨h.p.below hb, blk_below h.h9 hb, h.le9, h.ne29, Kd.R_below h.rO hb, Kd.R_mono (Kd.R_lower (Kd.R_bound hr) h.p.b.size) (fun k hk he => by
    have := Kd.R_lt h.p.rL k he.symm
    have := hk.2.1
    omega)⟩
theorem R_apart {α β : Type} {d : Kd α} {d' : Kd β} {e e' base base' : Nat} {ok ok' : Nat → Prop} {v v' : Value} {xs : List α} {ys : List β} (h : d.R e W base ok v xs) (h' : d'.R e' W base' ok' v' ys) (hE : ∀ q, q ∈ e :: d.E → q ≠ e') : d.R e W base (fun k => ok k ∧ some k ≠ v'.ownBlock) v xs :=
  Kd.R_mono (Kd.R_bound h) (fun k hk => ⟨hk.1, fun he => by
    obtain ⟨_, _, _, q, hq, cells, hc⟩ := hk
    obtain ⟨_, ho⟩ := Kd.R_own h'
    obtain ⟨cells', hc'⟩ := own_typed ho k he.symm
    rw [hc] at hc'
    injection hc' with hc'
    injection hc' with _ hc'
    exact hE q hq hc'⟩)
theorem EnvQ.loses (h : EnvQ w W g2 g3 g6 g9 A0 c0 n0 A1 c1 n1 vL left vO lose vU out) (hr : Kd.R k55 55 W' w.heap.size (fun _ => True) vO' lose') (hb : Below w.heap.size w W') (hg : W.grownBy W' vO.ownBlock) : EnvQ w (W'.setCell ⟨g9, 0, none⟩ vO') g2 g3 g6 g9 A0 c0 n0 A1 c1 n1 vL left vO' lose' vU out := by
  have e2 := blk_row h.p.h2 h.rO hg z10
  have e3 := blk_row h.p.h3 h.rO hg z10
  have e6 := blk_row h.p.h6 h.rO hg z10
  have e9 := blk_row h.h9 h.rO hg z10
  have hi : ∀ q, q ∈ 3 :: (Kd.int .i64).E → q ≠ 55 := fun q hq => by
    have : q = 3 := by simpa [Kd.int, Kd.scalar] using hq
    subst this; decide
  have hi46 : ∀ q, q ∈ 3 :: (Kd.int .i64).E → q ≠ 46 := fun q hq => by
    have : q = 3 := by simpa [Kd.int, Kd.scalar] using hq
    subst this; decide
  have hk46 : ∀ q, q ∈ 55 :: k55.E → q ≠ 46 := by decide
  have rL := Kd.R_grown (R_apart h.p.rL h.rO hi) hg (fun k hk => hk.2)
  have rU := Kd.R_grown (R_apart h.rU h.rO hi) hg (fun k hk => hk.2)
  refine ⟨⟨below_set hb h.le9, blk_far e2 (p := ⟨g9, 0, none⟩) h.ne29 _, blk_far e3 (p := ⟨g9, 0, none⟩) (blk_ne e3 e9 z10) _, blk_far e6 (p := ⟨g9, 0, none⟩) (blk_ne e6 e9 z10) _, h.p.le6, h.p.ne36, Kd.R_mono (Kd.R_set rL e9 hi46 0 _) (fun _ _ => trivial)⟩, blk_put e9 0 _ rfl, h.le9, h.ne29, Kd.R_set hr e9 hk46 0 _, Kd.R_mono (Kd.R_set rU e9 hi46 0 _) (fun _ hk => hk.1)⟩
theorem EnvQ.lefts (h : EnvQ w W g2 g3 g6 g9 A0 c0 n0 A1 c1 n1 vL left vO lose vU out) (hr : Kd.R (Kd.int .i64) 3 W' w.heap.size (fun _ => True) vL' left') (he : vL'.ownBlock = vL.ownBlock) (hb : Below w.heap.size w W') (hg : W.grownBy W' vL.ownBlock) : EnvQ w (W'.setCell ⟨g6, 0, none⟩ vL') g2 g3 g6 g9 A0 c0 n0 A1 c1 n1 vL' left' vO lose vU out := by
  have e6 := blk_row h.p.h6 h.p.rL hg z10
  have e9 := blk_row h.h9 h.p.rL hg z10
  have hi : ∀ q, q ∈ 3 :: (Kd.int .i64).E → q ≠ 22 := fun q hq => by
    have : q = 3 := by simpa [Kd.int, Kd.scalar] using hq
    subst this; decide
  have hk3 : ∀ q, q ∈ 55 :: k55.E → q ≠ 3 := by decide
  have hk22 : ∀ q, q ∈ 55 :: k55.E → q ≠ 22 := by decide
  have rO := Kd.R_grown (R_apart h.rO h.p.rL hk3) hg (fun k hk => hk.2)
  have rU := Kd.R_grown h.rU hg (fun k hk => hk)
  refine ⟨h.p.store hr hb hg, blk_far e9 (p := ⟨g6, 0, none⟩) (blk_ne e9 e6 z10) _, h.le9, h.ne29, Kd.R_mono (Kd.R_set rO e6 hk22 0 _) (fun _ _ => trivial), ?_⟩
  rw [he]
  exact Kd.R_set rU e6 hi 0 _
end
end Go.Proofs.YtbanemecfobonaaDoor.B
