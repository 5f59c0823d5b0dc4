/- Reading a frame bit by bit: the reader's row of equal bits, its next bit, and Read. -/
import Derived.Test.YtbanemecfobonaaDoorX2
namespace Go.Proofs.YtbanemecfobonaaDoor.B
open Go.RowKit Go.Proofs.YtbanemecfobonaaDoorW.PrintWords Go.Proofs.YtbanemecfobonaaDoorW.PrintLast Go.Proofs.YtbanemecfobonaaDoorW.PrintMore
set_option linter.unusedVariables false
set_option linter.unusedSimpArgs false

/-- A reader at block g. -/
def IsRd (w0 W : World) (g : Nat) (A : Option Addr) (n c : Nat) (at_ bit many : Int) : Prop := W.heap[g]? = some (.cells #[.slice A n c, .int .i64 at_, .int .i64 bit, .int .i64 many] 80 (0, 0)) ∧ w0.heap.size ≤ g
section
variable {w0 W W1 : World} {g : Nat} {A : Option Addr} {n c : Nat} {at_ bit many : Int}
theorem IsRd.drewN (h : IsRd w0 W g A n c at_ bit many) (m : Nat) : IsRd w0 (W.drewN m) g A n c at_ bit many := h
theorem IsRd.drew (h : IsRd w0 W g A n c at_ bit many) : IsRd w0 W.drew g A n c at_ bit many := h
theorem IsRd.alloc (h : IsRd w0 W g A n c at_ bit many) (o : Obj) : IsRd w0 (W.alloc o) g A n c at_ bit many := ⟨blk_alloc h.1 o, h.2⟩
theorem IsRd.below (h : IsRd w0 W g A n c at_ bit many) (hb : Below W.heap.size W W1) : IsRd w0 W1 g A n c at_ bit many := ⟨blk_below h.1 hb, h.2⟩
theorem IsRd.grown (h : IsRd w0 W g A n c at_ bit many) {row : Option Nat} (hg : W.grownBy W1 row) (hne : some g ≠ row) : IsRd w0 W1 g A n c at_ bit many := ⟨blk_grown h.1 hg hne, h.2⟩
theorem IsRd.set_1 (h : IsRd w0 W g A n c at_ bit many) (x : Int) : IsRd w0 (W.setCell ⟨g, 1, none⟩ (.int .i64 x)) g A n c x bit many := ⟨blk_put h.1 1 _ rfl, h.2⟩
theorem IsRd.set_2 (h : IsRd w0 W g A n c at_ bit many) (x : Int) : IsRd w0 (W.setCell ⟨g, 2, none⟩ (.int .i64 x)) g A n c at_ x many := ⟨blk_put h.1 2 _ rfl, h.2⟩
theorem IsRd.set_3 (h : IsRd w0 W g A n c at_ bit many) (x : Int) : IsRd w0 (W.setCell ⟨g, 3, none⟩ (.int .i64 x)) g A n c at_ bit x := ⟨blk_put h.1 3 _ rfl, h.2⟩
theorem IsRd.own_ne {base : Nat} {ok : Nat → Prop} {v : Value} {xs : List Int} (h : IsRd w0 W g A n c at_ bit many) (ho : Kd.R (Kd.int .i64) 3 W base ok v xs) : some g ≠ v.ownBlock := Kd.R_ne ho h.1 (by decide)
theorem IsRd.keep {base : Nat} {ok : Nat → Prop} {v : Value} {xs : List Int} (h : IsRd w0 W g A n c at_ bit many) (hk : KeepBut W W1 g none) (ho : Kd.R (Kd.int .i64) 3 W base ok v xs) : Kd.R (Kd.int .i64) 3 W1 base ok v xs :=
  Kd.R_mono (Kd.R_keep (Kd.R_types ho h.1 (by decide)) hk (fun _ hk => hk.2)) (fun _ hk => hk.1)
end

set_option maxHeartbeats 8000000 in
set_option maxRecDepth 100000 in
theorem row80_put.calls (g : Nat) (A : Option Addr) (n c : Nat) (at_ bit many b : Int) (w0 w : World) (hI : IsRd w0 w g A n c at_ bit many) (hB : Below w0.heap.size w0 w) :
    Calls Tryd.prog 92 #[.pointer (some ⟨g, 2, none⟩), .int .i64 b] w fun e w' => e = .returned (.tuple #[]) ∧ IsRd w0 w' g A n c at_ (put1 bit many b).1 (put1 bit many b).2 ∧ Below w0.heap.size w0 w' ∧ KeepBut w w' g none := by
  have HI0 := Aside0.mk hI
  have HK := Aside0.mk (KeepBut.refl w g none)
  have HB := Aside0.mk hB
  clear hI hB
  by_cases c3 : many > 0
  · have c3b0 : decide (0 < many) = true := decide_eq_true c3
    by_cases c4 : bit = b
    · have E1 := Aside0.mk (show put1 bit many b = (bit, wrap64 (many + 1)) by unfold put1; rw [if_pos c3, if_pos c4])
      have c4b0 : (bit == b) = true := beq_iff_eq.mpr c4
      clear c3 c4
      obtain ⟨HGz, hgz⟩ := HI0.out
      have hcz_2 : w.cell? ⟨g, 2, none⟩ = some (.int .i64 bit) := (blk_cell HGz 2).trans rfl
      have hcz_3 : w.cell? ⟨g, 3, none⟩ = some (.int .i64 many) := (blk_cell HGz 3).trans rfl
      have hfz_2 := blk_frozen HGz 2
      have hfz_3 := blk_frozen HGz 3
      clear HGz hgz
      go_enter Tryd.func92, Tryd.ntmps92
      go_wp2
      first | go_end0 | ((try simp only [Exit.inBlock, Exit.then]); refine bodyPost_ret (results_none rfl _ _ _) rfl ?_)
      exact ⟨by first | rfl | simp, by rw [E1.out]; repeat (first | exact HI0.out | apply IsRd.drewN | apply IsRd.drew | apply IsRd.set_1 | apply IsRd.set_2 | apply IsRd.set_3), by repeat (first | exact HB.out | apply below_alloc | apply pw_below_drewN | apply below_drew1 | refine below_set ?_ HI0.out.2), by repeat (first | exact HK.out | apply KeepBut.set_ | apply keep_drewN | apply keep_drew | apply keep_alloc)⟩
    · have E1 := Aside0.mk (show put1 bit many b = (b, 1) by unfold put1; rw [if_pos c3, if_neg c4])
      have c4b0 : (bit == b) = false := beq_eq_false_iff_ne.mpr c4
      clear c3
      obtain ⟨HGz, hgz⟩ := HI0.out
      have hcz_2 : w.cell? ⟨g, 2, none⟩ = some (.int .i64 bit) := (blk_cell HGz 2).trans rfl
      have hcz_3 : w.cell? ⟨g, 3, none⟩ = some (.int .i64 many) := (blk_cell HGz 3).trans rfl
      have hfz_2 := blk_frozen HGz 2
      have hfz_3 := blk_frozen HGz 3
      clear HGz hgz
      go_enter Tryd.func92, Tryd.ntmps92
      go_wp2
      first | go_end0 | ((try simp only [Exit.inBlock, Exit.then]); refine bodyPost_ret (results_none rfl _ _ _) rfl ?_)
      exact ⟨by first | rfl | simp, by rw [E1.out]; repeat (first | exact HI0.out | apply IsRd.drewN | apply IsRd.drew | apply IsRd.set_1 | apply IsRd.set_2 | apply IsRd.set_3), by repeat (first | exact HB.out | apply below_alloc | apply pw_below_drewN | apply below_drew1 | refine below_set ?_ HI0.out.2), by repeat (first | exact HK.out | apply KeepBut.set_ | apply keep_drewN | apply keep_drew | apply keep_alloc)⟩
  · have c3b0 : decide (0 < many) = false := decide_eq_false c3
    · have E1 := Aside0.mk (show put1 bit many b = (b, 1) by unfold put1; rw [if_neg c3])
      clear c3
      obtain ⟨HGz, hgz⟩ := HI0.out
      have hcz_2 : w.cell? ⟨g, 2, none⟩ = some (.int .i64 bit) := (blk_cell HGz 2).trans rfl
      have hcz_3 : w.cell? ⟨g, 3, none⟩ = some (.int .i64 many) := (blk_cell HGz 3).trans rfl
      have hfz_2 := blk_frozen HGz 2
      have hfz_3 := blk_frozen HGz 3
      clear HGz hgz
      go_enter Tryd.func92, Tryd.ntmps92
      go_wp2
      first | go_end0 | ((try simp only [Exit.inBlock, Exit.then]); refine bodyPost_ret (results_none rfl _ _ _) rfl ?_)
      exact ⟨by first | rfl | simp, by rw [E1.out]; repeat (first | exact HI0.out | apply IsRd.drewN | apply IsRd.drew | apply IsRd.set_1 | apply IsRd.set_2 | apply IsRd.set_3), by repeat (first | exact HB.out | apply below_alloc | apply pw_below_drewN | apply below_drew1 | refine below_set ?_ HI0.out.2), by repeat (first | exact HK.out | apply KeepBut.set_ | apply keep_drewN | apply keep_drew | apply keep_alloc)⟩

set_option maxHeartbeats 8000000 in
set_option maxRecDepth 100000 in
theorem row80_full.calls (g : Nat) (A : Option Addr) (n c : Nat) (at_ bit many : Int) (w0 w : World) (hI : IsRd w0 w g A n c at_ bit many) :
    Calls Tryd.prog 50 #[.pointer (some ⟨g, 2, none⟩)] w fun e w' => e = .returned (.bool (many == 5)) ∧ Drawn0 w w' := by
  have HI0 := Aside0.mk hI
  clear hI
  have hcz_3 : w.cell? ⟨g, 3, none⟩ = some (.int .i64 many) := (blk_cell HI0.out.1 3).trans rfl
  go_enter Tryd.func50, Tryd.ntmps50
  go_wp2
  go_ret
  exact ⟨by first | rfl | simp, by repeat (first | exact Drawn0.refl _ | apply Drawn0.step)⟩

end Go.Proofs.YtbanemecfobonaaDoor.B
