/- Whole numbers of any size at their blocks: what a block of words says, and the methods of Int. -/
import Derived.Test.YtbanemecfobonaaDoorX6p
import Derived.Deep.RegionHeld3
namespace Go.Proofs.YtbanemecfobonaaDoor.B
open Go.RowKit Go.Proofs.YtbanemecfobonaaDoorW.PrintWords Go.Proofs.YtbanemecfobonaaDoorW.PrintLast Go.Proofs.YtbanemecfobonaaDoorW.PrintMore
set_option linter.unusedVariables false
set_option linter.unusedSimpArgs false

/-- The words at A. -/
def WA (w : World) (A : Option Addr) (c : Nat) (l : List Int) : Prop :=
  Kd.C (Kd.int .u32) w A l.length l ∧ l.length ≤ c ∧ ∀ ad, A = some ad → ∃ cs, w.heap[ad.block]? = some (.cells cs 149 (0, 0))

section
variable {w w' : World} {A : Option Addr} {c : Nat} {l : List Int} {g : Nat} {cs : Array Value} {t : TypeId}
theorem WA.nil (w : World) : WA w none 0 [] := ⟨Kd.C_nil _ _, Nat.le_refl _, fun _ h => nomatch h⟩
theorem WA.of_R {base : Nat} {ok : Nat → Prop} {v : Value} (h : Kd.R (Kd.int .u32) 149 w base ok v l) : ∃ A c, v = .slice A l.length c ∧ WA w A c l := by
  obtain ⟨A, c, rfl, hc, hr⟩ := Kd.R_reads h
  refine ⟨A, c, rfl, hr, hc, fun ad he => ?_⟩
  obtain ⟨inner, ho, _⟩ := h.2
  rcases ho.2 with ⟨hv, _⟩ | ⟨g, cap, cur, hv, _, hg, _⟩
  · simp [he] at hv
  · simp only [Value.slice.injEq] at hv
    rw [he] at hv
    obtain rfl := Option.some.inj hv.1
    exact ⟨cur, hg⟩
theorem WA.keep (h : WA w A c l) (hg : w.heap[g]? = some (.cells cs t (0, 0))) (ht : t ≠ 149) (hk : KeepBut w w' g none) : WA w' A c l := by
  have hne : ∀ ad, A = some ad → ad.block ≠ g := fun ad he => by
    obtain ⟨cs2, h2⟩ := h.2.2 ad he
    exact blk_ne h2 hg (fun e => ht e.symm)
  refine ⟨Kd.C_foot_ne (fun h => h) h.1 (fun ad he _ => hne ad he) _ hk, h.2.1, fun ad he => ?_⟩
  obtain ⟨cs2, h2⟩ := h.2.2 ad he
  exact ⟨cs2, KeepBut.blk hk h2 (hne ad he) (by simp)⟩
theorem WA.below (h : WA w A c l) (hb : Below w.heap.size w w') : WA w' A c l :=
  ⟨Kd.C_below h.1 hb, h.2.1, fun ad he => by obtain ⟨cs2, h2⟩ := h.2.2 ad he; exact ⟨cs2, blk_below h2 hb⟩⟩
theorem WA.drewN (h : WA w A c l) (n : Nat) : WA (w.drewN n) A c l := h.below (pw_below_drewN (Below.refl _ _) n)
theorem WA.alloc (h : WA w A c l) (o : Obj) : WA (w.alloc o) A c l := h.below (below_alloc (Below.refl _ _) o)
theorem WA.put (h : WA w A c l) (hg : w.heap[g]? = some (.cells cs t (0, 0))) (ht : t ≠ 149) (i : Nat) (u : Value) : WA (w.setCell ⟨g, i, none⟩ u) A c l := h.keep hg ht ((KeepBut.refl w g none).set_ i u)
end

theorem WA.lit1 (w : World) (x : Int) : WA (w.alloc (.cells #[.int .u32 x] 149)) (some ⟨w.heap.size, 0, none⟩) 1 [x] := by
  have h : Kd.R (Kd.int .u32) 149 (w.alloc (.cells #[.int .u32 x] 149)) w.heap.size (fun _ => True) (.slice (some ⟨w.heap.size, 0, none⟩) 1 1) [x] :=
    ⟨fun _ _ => trivial, OwnRow.lit (size := 1) w w.heap.size (inner := [.int .u32 x]) (Reps.one (show Kd.M (Kd.int .u32) _ _ _ x [.int .u32 x] from rfl) (Reps.none _ _)) (Nat.le_refl _) (by simp)⟩
  obtain ⟨A, c, he, ha⟩ := WA.of_R h
  simp only [Value.slice.injEq] at he
  rw [he.1, he.2.2]
  exact ha
/-- A whole number whose sign lies in cell 0 of block g and whose words lie in cell 1. -/
def IntC (w : World) (g : Nat) (neg : Bool) (l : List Int) : Prop :=
  ∃ cs t A c, w.heap[g]? = some (.cells cs t (0, 0)) ∧ t ≠ 149 ∧ cs[0]? = some (.bool neg) ∧ cs[1]? = some (.slice A l.length c) ∧ WA w A c l
section
variable {w w' : World} {neg : Bool} {l : List Int} {g g' : Nat}
theorem IntC.below (h : IntC w g neg l) (hb : Below w.heap.size w w') : IntC w' g neg l := by
  obtain ⟨cs, t, A, c, h1, h2, h3, h4, h5⟩ := h
  exact ⟨cs, t, A, c, blk_below h1 hb, h2, h3, h4, h5.below hb⟩
theorem IntC.keep {cs : Array Value} {t : TypeId} (h : IntC w g neg l) (hg : w.heap[g']? = some (.cells cs t (0, 0))) (ht : t ≠ 149) (hne : g ≠ g') (hk : KeepBut w w' g' none) : IntC w' g neg l := by
  obtain ⟨cs, t, A, c, h1, h2, h3, h4, h5⟩ := h
  exact ⟨cs, t, A, c, KeepBut.blk hk h1 hne (by simp), h2, h3, h4, h5.keep hg ht hk⟩
end

/-- No old block but g has changed, and nothing outside the heap. -/
def Only (w w' : World) (g : Nat) : Prop := (w'.os = w.os ∧ w'.tape = w.tape ∧ w'.output = w.output) ∧ KeepBut w w' g none
section
variable {w w0 w1 w2 : World} {g : Nat}
theorem Only.refl (w : World) (g : Nat) : Only w w g := ⟨⟨rfl, rfl, rfl⟩, KeepBut.refl w g none⟩
theorem Only.set_ (h : Only w w1 g) (i : Nat) (u : Value) : Only w (w1.setCell ⟨g, i, none⟩ u) g :=
  have b : Below 0 w1 (w1.setCell ⟨g, i, none⟩ u) := (Below.refl 0 w1).setCell (Nat.zero_le _) u
  ⟨⟨b.os.trans h.1.1, b.tape.trans h.1.2.1, b.output.trans h.1.2.2⟩, h.2.set_ i u⟩
theorem Only.of_below (h : Below w.heap.size w w1) (g : Nat) : Only w w1 g := ⟨⟨h.os, h.tape, h.output⟩, KeepBut.of_below h g none⟩
theorem Only.trans (h : Only w w1 g) (k : Only w1 w2 g) : Only w w2 g :=
  ⟨⟨k.1.1.trans h.1.1, k.1.2.1.trans h.1.2.1, k.1.2.2.trans h.1.2.2⟩, h.2.trans k.2 (.inl rfl)⟩
theorem Only.below (h : Only w w1 g) (hb : Below w0.heap.size w0 w) (hg : w0.heap.size ≤ g) : Below w0.heap.size w0 w1 :=
  ⟨h.1.1.trans hb.os, h.1.2.1.trans hb.tape, h.1.2.2.trans hb.output, Nat.le_trans hb.size h.2.1, fun k hk => (h.2.2 k (Nat.lt_of_lt_of_le hk hb.size) (by omega) (by simp)).trans (hb.block k hk)⟩
end

set_option maxHeartbeats 800000 in
set_option maxRecDepth 100000 in
/-- set: the block's first two cells are the sign and the words. -/
theorem big_Int_set.calls (g : Nat) (cs : Array Value) (t : TypeId) (neg : Bool) (A : Option Addr) (c : Nat) (l : List Int) (w : World) (hg : w.heap[g]? = some (.cells cs t (0, 0))) (hs : 2 ≤ cs.size) :
    Calls Tryd.prog 108 #[.pointer (some ⟨g, 0, none⟩), .bool neg, .slice A l.length c] w fun e w' => e = .returned (.pointer (some ⟨g, 0, none⟩)) ∧ Only w w' g ∧ w'.heap.size = w.heap.size ∧ w'.heap[g]? = some (.cells ((cs.setIfInBounds 0 (.bool (neg && decide (0 < l.length)))).setIfInBounds 1 (.slice A l.length c)) t (0, 0)) := by
  have hf0 := blk_frozen hg 0
  have hf1 := blk_frozen hg 1
  have hc0 : ∃ v, w.cell? ⟨g, 0, none⟩ = some v := ⟨cs[0], (blk_cell hg 0).trans (by simp)⟩
  have hc1 : ∃ v, w.cell? ⟨g, 1, none⟩ = some v := ⟨cs[1], (blk_cell hg 1).trans (by simp)⟩
  obtain ⟨v0, hc0⟩ := hc0
  obtain ⟨v1, hc1⟩ := hc1
  by_cases hn : neg = true
  · subst hn
    have HG := Aside0.mk hg
    clear hg
    go_enter Tryd.func108, Tryd.ntmps108
    go_wp2
    go_ret
    refine ⟨rfl, ((Only.refl w g).set_ _ _).set_ _ _, by simp, ?_⟩
    exact (blk_set (blk_set HG.out 0 _) 1 _).trans (by simp)
  · replace hn : neg = false := by simpa using hn
    subst hn
    have HG := Aside0.mk hg
    clear hg
    go_enter Tryd.func108, Tryd.ntmps108
    go_wp2
    go_ret
    refine ⟨rfl, ((Only.refl w g).set_ _ _).set_ _ _, by simp, ?_⟩
    exact (blk_set (blk_set HG.out 0 _) 1 _).trans (by simp)

/-- The block holds the number now, and no other old block has changed. -/
def PutI (w w' : World) (g : Nat) (cs : Array Value) (t : TypeId) (neg : Bool) (l : List Int) : Prop :=
  Only w w' g ∧ ∃ A c, WA w' A c l ∧ w'.heap[g]? = some (.cells ((cs.setIfInBounds 0 (.bool (neg && decide (0 < l.length)))).setIfInBounds 1 (.slice A l.length c)) t (0, 0))

theorem PutI.of_set {w w1 w2 : World} {g : Nat} {cs : Array Value} {t : TypeId} {neg : Bool} {l : List Int} {A : Option Addr} {c : Nat} (hg : w.heap[g]? = some (.cells cs t (0, 0))) (ht : t ≠ 149)
    (hb : Below w.heap.size w w1) (hr : WA w1 A c l) (hk : Only w1 w2 g) (he : w2.heap[g]? = some (.cells ((cs.setIfInBounds 0 (.bool (neg && decide (0 < l.length)))).setIfInBounds 1 (.slice A l.length c)) t (0, 0))) : PutI w w2 g cs t neg l :=
  ⟨(Only.of_below hb g).trans hk, A, c, hr.keep (blk_below hg hb) ht hk.2, he⟩

set_option maxHeartbeats 800000 in
set_option maxRecDepth 100000 in
theorem big_Int_Mul.calls (k g gx gy : Nat) (cs : Array Value) (t : TypeId) (nx ny : Bool) (lx ly r : List Int) (w : World) (hg : w.heap[g]? = some (.cells cs t (0, 0))) (ht : t ≠ 149) (hs : 2 ≤ cs.size) (hx : IntC w gx nx lx) (hy : IntC w gy ny ly) (hgx : gx ≠ g) (hgy : gy ≠ g) (h : big_times.f k lx ly = some r) :
    Calls Tryd.prog 119 #[.pointer (some ⟨g, 0, none⟩), .pointer (some ⟨gx, 0, none⟩), .pointer (some ⟨gy, 0, none⟩)] w fun e w' => e = .returned (.pointer (some ⟨g, 0, none⟩)) ∧ PutI w w' g cs t (nx != ny) r := by
  obtain ⟨csx, tx, Ax, cx, hx1, hx2, hx3, hx4, hx5⟩ := hx
  obtain ⟨csy, ty, Ay, cy, hy1, hy2, hy3, hy4, hy5⟩ := hy
  have hcx0 : w.cell? ⟨gx, 0, none⟩ = some (.bool nx) := (blk_cell hx1 0).trans hx3
  have hcx1 : w.cell? ⟨gx, 1, none⟩ = some (.slice Ax lx.length cx) := (blk_cell hx1 1).trans hx4
  have hcy0 : w.cell? ⟨gy, 0, none⟩ = some (.bool ny) := (blk_cell hy1 0).trans hy3
  have hcy1 : w.cell? ⟨gy, 1, none⟩ = some (.slice Ay ly.length cy) := (blk_cell hy1 1).trans hy4
  have HG := Aside0.mk hg
  have HX := Aside0.mk hx5
  have HY := Aside0.mk hy5
  have HS := Aside0.mk (show ∀ w1, Below w.heap.size w w1 → w1.cell? ⟨gx, 0, none⟩ = some (.bool nx) ∧ w1.cell? ⟨gx, 1, none⟩ = some (.slice Ax lx.length cx) ∧ w1.cell? ⟨gy, 0, none⟩ = some (.bool ny) ∧ w1.cell? ⟨gy, 1, none⟩ = some (.slice Ay ly.length cy) from fun w1 hb => ⟨(blk_cell (blk_below hx1 hb) 0).trans hx3, (blk_cell (blk_below hx1 hb) 1).trans hx4, (blk_cell (blk_below hy1 hb) 0).trans hy3, (blk_cell (blk_below hy1 hb) 1).trans hy4⟩)
  have HS2 := Aside0.mk (show ∀ w1 w2, Below w.heap.size w w1 → KeepBut w1 w2 g none → w2.cell? ⟨gx, 0, none⟩ = some (.bool nx) ∧ w2.cell? ⟨gx, 1, none⟩ = some (.slice Ax lx.length cx) ∧ w2.cell? ⟨gy, 0, none⟩ = some (.bool ny) ∧ w2.cell? ⟨gy, 1, none⟩ = some (.slice Ay ly.length cy) from fun w1 w2 hb hk => ⟨keep_cell hk ((blk_cell (blk_below hx1 hb) 0).trans hx3) hgx, keep_cell hk ((blk_cell (blk_below hx1 hb) 1).trans hx4) hgx, keep_cell hk ((blk_cell (blk_below hy1 hb) 0).trans hy3) hgy, keep_cell hk ((blk_cell (blk_below hy1 hb) 1).trans hy4) hgy⟩)
  clear hg hx5 hy5 hx1 hx2 hx3 hx4 hy1 hy2 hy3 hy4
  go_enter Tryd.func119, Tryd.ntmps119
  go_wp2
  go_region_held3 (fun w1 => w1.cell? ⟨gx, 0, none⟩ = some (.bool nx) ∧ w1.cell? ⟨gx, 1, none⟩ = some (.slice Ax lx.length cx) ∧ w1.cell? ⟨gy, 0, none⟩ = some (.bool ny) ∧ w1.cell? ⟨gy, 1, none⟩ = some (.slice Ay ly.length cy)) (first | exact ⟨hcx0, hcx1, hcy0, hcy1⟩ | exact HS2.out _ _ hb.out hk.out.2 | exact HS.out _ hb.out | go_keep)
    (first
    | (go_at_call 122; refine (big_times.calls k Ax cx lx Ay cy ly r _ (by first | exact HX.out.1 | exact Kd.C_drewN HX.out.1 _) HX.out.2.1 (by first | exact HY.out.1 | exact Kd.C_drewN HY.out.1 _) HY.out.2.1 h).mono ?_; rintro e w1 ⟨v, rfl, hv, hb⟩; replace hb : Below w.heap.size w w1 := ⟨hb.os, hb.tape, hb.output, hb.size, hb.block⟩; obtain ⟨Ar, cr, rfl, hr⟩ := WA.of_R hv; clear hv; replace hr := Aside0.mk hr; replace hb := Aside0.mk hb)
    | (go_at_call 108; refine (big_Int_set.calls g cs t _ Ar cr r _ (blk_below HG.out hb.out) hs).mono ?_; rintro e w2 ⟨rfl, hk, hz, he⟩; replace hk := Aside0.mk hk; replace he := Aside0.mk he; clear hz))
  rename_i hHeld
  clear hHeld HS HS2 hcx0 hcx1 hcy0 hcy1
  go_wp2
  go_outline
  go_ret
  exact ⟨rfl, PutI.of_set HG.out ht hb.out hr.out hk.out (by have := he.out; simpa [bne] using this)⟩

end Go.Proofs.YtbanemecfobonaaDoor.B
