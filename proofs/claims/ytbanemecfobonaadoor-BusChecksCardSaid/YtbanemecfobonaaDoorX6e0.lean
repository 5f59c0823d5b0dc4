/- Ratios: numbers of a call's own. -/
import Derived.Test.YtbanemecfobonaaDoorX6d
namespace Go.Proofs.YtbanemecfobonaaDoor.B
open Go.RowKit Go.Proofs.YtbanemecfobonaaDoorW.PrintWords Go.Proofs.YtbanemecfobonaaDoorW.PrintLast Go.Proofs.YtbanemecfobonaaDoorW.PrintMore
set_option linter.unusedVariables false
set_option linter.unusedSimpArgs false

theorem drew_size (W : World) : W.drew.heap.size = W.heap.size := rfl
/-- A whole number of its own at a block that the call has made. -/
def FI (w W : World) (g : Nat) (l : List Int) : Prop :=
  w.heap.size ≤ g ∧ ∃ A c, W.heap[g]? = some (.cells #[.bool false, .slice A l.length c] 121 (0, 0)) ∧ WA W A c l
section
variable {w W W' : World} {g g' : Nat} {l : List Int}
theorem FI.new (h : w.heap.size ≤ W.heap.size) : FI w (W.alloc (.cells #[.bool false, .slice none 0 0] 121)) W.heap.size [] := ⟨h, none, 0, blk_new _ _, WA.nil _⟩
theorem FI.new' (h : w.heap.size ≤ W.heap.size) (hg : g = W.heap.size) : FI w (W.alloc (.cells #[.bool false, .slice none 0 0] 121)) g [] := hg ▸ FI.new h
theorem FI.below (h : FI w W g l) (hb : Below W.heap.size W W') : FI w W' g l := by
  obtain ⟨h0, A, c, h1, h2⟩ := h
  exact ⟨h0, A, c, blk_below h1 hb, h2.below hb⟩
theorem FI.alloc (h : FI w W g l) (o : Obj) : FI w (W.alloc o) g l := h.below (below_alloc (Below.refl _ _) o)
theorem FI.drewN (h : FI w W g l) (n : Nat) : FI w (W.drewN n) g l := h.below (pw_below_drewN (Below.refl _ _) n)
theorem FI.drew (h : FI w W g l) : FI w W.drew g l := h.below (below_drew1 (Below.refl _ _))
theorem FI.only {cs : Array Value} {t : TypeId} (h : FI w W g l) (hg : W.heap[g']? = some (.cells cs t (0, 0))) (ht : t ≠ 149) (hne : g ≠ g') (hk : Only W W' g') : FI w W' g l := by
  obtain ⟨h0, A, c, h1, h2⟩ := h
  exact ⟨h0, A, c, KeepBut.blk hk.2 h1 hne (by simp), h2.keep hg ht hk.2⟩
theorem FI.int (h : FI w W g l) : IntC W g false l := by
  obtain ⟨h0, A, c, h1, h2⟩ := h
  exact ⟨_, _, A, c, h1, by decide, rfl, rfl, h2⟩
theorem FI.lt (h : FI w W g l) : g < W.heap.size := by
  obtain ⟨h0, A, c, h1, h2⟩ := h
  exact blk_lt h1
end

/-- The denominator: 1 where none is laid. -/
def den1 (d : List Int) : List Int := if d.length = 0 then [1] else d
/-- Two ratios compared. -/
def ratCmp (k : Nat) (lz dz lx dx : List Int) : Option Int :=
  (big_times.f k lz (den1 dx)).bind fun a => (big_times.f k lx (den1 dz)).bind fun b => big_compare.f k a b

/-- Denom, told by a base world. -/
theorem big_Rat_Denom.calls2 (g : Nat) (l d : List Int) (w W : World) (hg : RatB W g l d) (hB : Below w.heap.size w W) :
    Calls Tryd.prog 73 #[.pointer (some ⟨g, 0, none⟩)] W fun e w' => ∃ g', e = .returned (.pointer (some ⟨g', 0, none⟩)) ∧ Below W.heap.size W w' ∧ Below w.heap.size w w' ∧ W.heap.size ≤ g' ∧ FI w w' g' (den1 d) := by
  obtain ⟨A, c, A', c', h1, h2, h3⟩ := hg
  exact (big_Rat_Denom.calls g _ _ 123 A' c' d W h1 h3).mono fun e w' ⟨g', he, hg', hb, A2, c2, ha, hh⟩ => ⟨g', he, hb, below_step hB hb, hg', Nat.le_trans hB.size hg', A2, c2, hh, ha⟩
/-- Mul into a number of the call's own, told by a base world. -/
theorem big_Int_Mul.calls2 (k g gx gy : Nat) (l lx ly r : List Int) (w W : World) (hg : FI w W g l) (hx : IntC W gx false lx) (hy : IntC W gy false ly) (hgx : gx ≠ g) (hgy : gy ≠ g) (hB : Below w.heap.size w W) (h : big_times.f k lx ly = some r) :
    Calls Tryd.prog 119 #[.pointer (some ⟨g, 0, none⟩), .pointer (some ⟨gx, 0, none⟩), .pointer (some ⟨gy, 0, none⟩)] W fun e w' => e = .returned (.pointer (some ⟨g, 0, none⟩)) ∧ Only W w' g ∧ Below w.heap.size w w' ∧ FI w w' g r ∧ ∀ (g' : Nat) (l' : List Int), g' ≠ g → FI w W g' l' → FI w w' g' l' := by
  obtain ⟨h0, A, c, h1, h2⟩ := hg
  refine (big_Int_Mul.calls k g gx gy _ 121 false false lx ly r W h1 (by decide) (by simp) hx hy hgx hgy h).mono fun e w' ⟨he, ho, A2, c2, ha, hh⟩ => ⟨he, ho, ho.below hB h0, ⟨h0, A2, c2, hh.trans (by simp), ha⟩, fun g' l' hne hf => hf.only h1 (by decide) hne ho⟩

end Go.Proofs.YtbanemecfobonaaDoor.B
