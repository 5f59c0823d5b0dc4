/- tube.of and connected at the closed drawing of two points and one line. -/
import Derived.Test.YtfbibheeogcacaaDoorXDD
import Derived.Deep.QuietTactic
import Derived.BigQuiet
namespace Go.Proofs.YtfbibheeogcacaaDoor.B
open Go.RowKit Go.Proofs.YtfbibheeogcacaaDoorW.PrintWords Go.Proofs.YtfbibheeogcacaaDoorW.PrintLast Go.Proofs.YtfbibheeogcacaaDoorW.PrintMore
set_option linter.unusedVariables false
set_option linter.unusedSimpArgs false
set_option maxHeartbeats 2000000 in
set_option maxRecDepth 100000 in
theorem conn_one (g gl cL : Nat) (w : World) (hD : Dr w w.heap.size g gl cL) :
    Calls Tryd.prog 40 #[.pointer (some ⟨g, 0, none⟩)] w fun e w' => e = .returned (.bool true) ∧ Below w.heap.size w w' := by
  have HD := Aside0.mk hD
  clear hD
  have hu48 := Tryd.underlying48
  go_enter Tryd.func40, Tryd.ntmps40
  go_upto_region 2 with (first | (go_at_call 47; refine (dist_one g gl cL w HD.out).mono ?_; rintro e w1 ⟨g0, r0, c0, r1, c1, cg, rfl, m1, b1⟩; have M1 := Aside0.mk m1; have B1 := Aside0.mk b1; have D1 := Aside0.mk (HD.out.below b1); clear m1 b1))
  have hn := D1.out.n
  have hl := D1.out.l
  clear HD
  go_upto_region 3 with (first | fail)
  clear hn hl
  go_loopg [13] 1 (fun gk v13 w' => ∃ j : Nat, v13 = .int .i64 (j : Int) ∧ Aside0 (j ≤ 1 ∧ gk = 1 - j) ∧ Aside0 (Mx w' w.heap.size g0 r0 c0 r1 c1 0 3 3 0) ∧ Aside0 (Dr w' w.heap.size g gl cL) ∧ Aside0 (Below w.heap.size w w'))
  case atStart => exact ⟨0, rfl, ⟨by omega⟩, M1, D1, B1⟩
  case round =>
    clear M1 D1 B1
    obtain ⟨j, rfl, HK, MM, HD, HB⟩ := hrel
    have hn := HD.out.n
    have hl := HD.out.l
    have ha := HD.out.a
    have hb := HD.out.b
    have hc := HD.out.c
    have hj01 : j = 0 ∨ j = 1 := by have := HK.out; omega
    rcases hj01 with rfl | rfl
    · go_upto_region 5 with (first
        | ((with_reducible refine gate_dst (N := 5) rfl ?_); refine box_event ?hg (N := 5) ?hd (cs := #[.int .i64 0, .int .i64 0, .int .i64 0]) (t := 48) ?hr ?_; (case hd => rfl); (case hg => rfl); (case hr => first | (go_simp; done) | (go_simp; rfl)); intro gb hgb w5 hbox hb5; have B5 := Aside0.mk (below_step HB.out hb5); have D5 := Aside0.mk (HD.out.step HB.out.size hb5); have S5 := Aside0.mk (Nat.le_trans HB.out.size (Nat.le_of_eq hgb.symm)); have b50 : w5.cell? ⟨gb, 0, none⟩ = some (.int .i64 0) := cell_of_row w5 gb 0 _ _ (0, 0) hbox; have b51 : w5.cell? ⟨gb, 1, none⟩ = some (.int .i64 0) := cell_of_row w5 gb 1 _ _ (0, 0) hbox; have b52 : w5.cell? ⟨gb, 2, none⟩ = some (.int .i64 0) := cell_of_row w5 gb 2 _ _ (0, 0) hbox; have f50 := blk_frozen hbox 0; have f51 := blk_frozen hbox 1; have f52 := blk_frozen hbox 2; have M5 := Aside0.mk (MM.out.below' (by have := MM.out.h.lt; have := MM.out.q.lt; have := MM.out.r.lt; exact hb5)); have G5 := Aside0.mk (show g0 ≠ gb ∧ r0 ≠ gb ∧ r1 ≠ gb from by have := MM.out.h.lt; have := MM.out.q.lt; have := MM.out.r.lt; omega); clear hb5 hgb))
      obtain ⟨h1, h2, h3⟩ := G5.out
      have M6 := Aside0.mk (((M5.out.far (o := 0) h1 h2 h3 (.int .i64 0)).far (o := 1) h1 h2 h3 (.int .i64 1)).far (o := 2) h1 h2 h3 (.int .i64 3))
      have D6 := Aside0.mk (((D5.out.put (o := 0) S5.out (.int .i64 0)).put (o := 1) S5.out (.int .i64 1)).put (o := 2) S5.out (.int .i64 3))
      have B6 : Aside0 (Below w.heap.size w (((w5.setCell ⟨gb, 0, none⟩ (.int .i64 0)).setCell ⟨gb, 1, none⟩ (.int .i64 1)).setCell ⟨gb, 2, none⟩ (.int .i64 3))) := ⟨Below.setCell (p := ⟨gb, 2, none⟩) (Below.setCell (p := ⟨gb, 1, none⟩) (Below.setCell (p := ⟨gb, 0, none⟩) B5.out S5.out _) S5.out _) S5.out _⟩
      have e0 : (((w5.setCell ⟨gb, 0, none⟩ (.int .i64 0)).setCell ⟨gb, 1, none⟩ (.int .i64 1)).setCell ⟨gb, 2, none⟩ (.int .i64 3)).cell? ⟨gb, 0, none⟩ = some (.int .i64 0) := by rw [cell_far _ (.inr (by decide)), cell_far _ (.inr (by decide))]; exact cell_put _ b50
      clear b50 b51 b52 f50 f51 f52 M5 D5 B5 G5 hn hl ha hb hc HD HB MM hbox
      generalize (((w5.setCell ⟨gb, 0, none⟩ (.int .i64 0)).setCell ⟨gb, 1, none⟩ (.int .i64 1)).setCell ⟨gb, 2, none⟩ (.int .i64 3)) = w6 at *
      have p0 := M6.out.h.p0
      have q0 := M6.out.q.q0
      have hl := D6.out.l
      have ha := D6.out.a
      go_quiet (fail)
      go_wp2
      go_roundg 0
      case measure => have := HK.out; omega
      case rel => exact ⟨1, rfl, ⟨by omega⟩, ⟨⟨M6.out.b0, M6.out.b1, M6.out.b2, M6.out.n0, M6.out.n1, M6.out.n2, ⟨M6.out.h.p0, M6.out.h.p1, M6.out.h.f⟩, ⟨M6.out.q.q0, M6.out.q.q1, M6.out.q.f⟩, ⟨M6.out.r.q0, M6.out.r.q1, M6.out.r.f⟩⟩⟩, ⟨⟨D6.out.hg, D6.out.hl, D6.out.n, D6.out.l, D6.out.a, D6.out.b, D6.out.c⟩⟩, ⟨pw_below_drewN B6.out _⟩⟩
    · clear HK
      go_wp2
      go_ret
      exact ⟨rfl, HB.out⟩
set_option maxHeartbeats 800000 in
set_option maxRecDepth 100000 in
theorem point_q (g : Nat) (p : Int) (hp : p = 0 ∨ p = 1) (w : World) (hn : w.cell? ⟨g, 0, none⟩ = some (.int .i64 2)) :
    Calls Tryd.prog 46 #[.pointer (some ⟨g, 0, none⟩), .int .i64 p] w fun e w' => e = .returned (.bool true) ∧ w' = w := by
  rcases hp with rfl | rfl
  all_goals
    go_enter Tryd.func46, Tryd.ntmps46
    go_wp2
    go_ret
    exact ⟨rfl, rfl⟩
set_option maxHeartbeats 2000000 in
set_option maxRecDepth 100000 in
theorem of_one (gl cL : Nat) (w : World) (hl : gl < w.heap.size) (ha : w.cell? ⟨gl, 0, none⟩ = some (.int .i64 0)) (hb : w.cell? ⟨gl, 1, none⟩ = some (.int .i64 1)) (hc : w.cell? ⟨gl, 2, none⟩ = some (.int .i64 3)) :
    Calls Tryd.prog 39 #[.int .i64 2, .slice (some ⟨gl, 0, none⟩) 1 cL] w fun e w' => ∃ g : Nat, e = .returned (.tuple #[.pointer (some ⟨g, 0, none⟩), .int .i64 0]) ∧ w'.heap[g]? = some (.cells #[.int .i64 2, .slice (some ⟨gl, 0, none⟩) 1 cL] 83 (0, 0)) ∧ w.heap.size ≤ g ∧ Below w.heap.size w w' := by
  have hu48 := Tryd.underlying48
  have HA := Aside0.mk ha
  have HB := Aside0.mk hb
  have HC := Aside0.mk hc
  clear ha hb hc
  go_enter Tryd.func39, Tryd.ntmps39
  go_upto_region 7 with (first | fail)
  have hh := blk_new w (.cells #[.int .i64 2, .slice (some ⟨gl, 0, none⟩) 1 cL] 83)
  have B1 := Aside0.mk (below_alloc (Below.refl w.heap.size w) (.cells #[.int .i64 2, .slice (some ⟨gl, 0, none⟩) 1 cL] 83))
  have G1 := Aside0.mk hh
  have hgl : gl ≠ w.heap.size := by omega
  obtain ⟨g, hg⟩ : ∃ g, g = w.heap.size := ⟨_, rfl⟩
  rw [← hg] at G1 hgl
  simp only [← hg]
  have Hg := Aside0.mk hg
  clear hh hg
  generalize (w.alloc (.cells #[.int .i64 2, .slice (some ⟨gl, 0, none⟩) 1 cL] 83)) = w1 at *
  go_loopg [26] 1 (fun gk v26 w' => ∃ j : Nat, v26 = .int .i64 (j : Int) ∧ Aside0 (j ≤ 1 ∧ gk = 1 - j) ∧ Aside0 (w'.heap[g]? = some (.cells #[.int .i64 2, .slice (some ⟨gl, 0, none⟩) 1 cL] 83 (0, 0))) ∧ Aside0 (Below w.heap.size w w'))
  case atStart => exact ⟨0, rfl, ⟨by omega⟩, G1, B1⟩
  case round =>
    clear G1 B1
    obtain ⟨j, rfl, HK, GG, BB⟩ := hrel
    have ha := cell_keep BB.out hl HA.out
    have hb := cell_keep BB.out hl HB.out
    have hc := cell_keep BB.out hl HC.out
    have hj01 : j = 0 ∨ j = 1 := by have := HK.out; omega
    rcases hj01 with rfl | rfl
    · go_upto_region 9 with (first
        | ((with_reducible refine gate_dst (N := 8) rfl ?_); refine box_event ?hg (N := 8) ?hd (cs := #[.int .i64 0, .int .i64 0, .int .i64 0]) (t := 48) ?hr ?_; (case hd => rfl); (case hg => rfl); (case hr => first | (go_simp; done) | (go_simp; rfl)); intro gb hgb w5 hbox hb5; have B5 := Aside0.mk (below_step BB.out hb5); have G5 := Aside0.mk ((hb5.block g (by have := cell_lt (cell_of_row _ g 0 _ _ (0, 0) GG.out); omega)).trans GG.out); have S5 := Aside0.mk (Nat.le_trans BB.out.size (Nat.le_of_eq hgb.symm)); have b50 : w5.cell? ⟨gb, 0, none⟩ = some (.int .i64 0) := cell_of_row w5 gb 0 _ _ (0, 0) hbox; have b51 : w5.cell? ⟨gb, 1, none⟩ = some (.int .i64 0) := cell_of_row w5 gb 1 _ _ (0, 0) hbox; have b52 : w5.cell? ⟨gb, 2, none⟩ = some (.int .i64 0) := cell_of_row w5 gb 2 _ _ (0, 0) hbox; have f50 := blk_frozen hbox 0; have f51 := blk_frozen hbox 1; have f52 := blk_frozen hbox 2; have N5 := Aside0.mk (show g ≠ gb from by have := cell_lt (cell_of_row _ g 0 _ _ (0, 0) GG.out); omega); clear hb5 hgb))
      have B6 : Aside0 (Below w.heap.size w (((w5.setCell ⟨gb, 0, none⟩ (.int .i64 0)).setCell ⟨gb, 1, none⟩ (.int .i64 1)).setCell ⟨gb, 2, none⟩ (.int .i64 3))) := ⟨Below.setCell (p := ⟨gb, 2, none⟩) (Below.setCell (p := ⟨gb, 1, none⟩) (Below.setCell (p := ⟨gb, 0, none⟩) B5.out S5.out _) S5.out _) S5.out _⟩
      have G6 : Aside0 ((((w5.setCell ⟨gb, 0, none⟩ (.int .i64 0)).setCell ⟨gb, 1, none⟩ (.int .i64 1)).setCell ⟨gb, 2, none⟩ (.int .i64 3)).heap[g]? = some (.cells #[.int .i64 2, .slice (some ⟨gl, 0, none⟩) 1 cL] 83 (0, 0))) := ⟨by
        rw [heap_setCell_other _ _ _ _ N5.out, heap_setCell_other _ _ _ _ N5.out, heap_setCell_other _ _ _ _ N5.out]; exact G5.out⟩
      have e0 : (((w5.setCell ⟨gb, 0, none⟩ (.int .i64 0)).setCell ⟨gb, 1, none⟩ (.int .i64 1)).setCell ⟨gb, 2, none⟩ (.int .i64 3)).cell? ⟨gb, 0, none⟩ = some (.int .i64 0) := by rw [cell_far _ (.inr (by decide)), cell_far _ (.inr (by decide))]; exact cell_put _ b50
      have e1 : (((w5.setCell ⟨gb, 0, none⟩ (.int .i64 0)).setCell ⟨gb, 1, none⟩ (.int .i64 1)).setCell ⟨gb, 2, none⟩ (.int .i64 3)).cell? ⟨gb, 1, none⟩ = some (.int .i64 1) := by rw [cell_far _ (.inr (by decide))]; exact cell_put _ (by rw [cell_far _ (.inr (by decide))]; exact b51)
      have e2 : (((w5.setCell ⟨gb, 0, none⟩ (.int .i64 0)).setCell ⟨gb, 1, none⟩ (.int .i64 1)).setCell ⟨gb, 2, none⟩ (.int .i64 3)).cell? ⟨gb, 2, none⟩ = some (.int .i64 3) := cell_put _ (by rw [cell_far _ (.inr (by decide)), cell_far _ (.inr (by decide))]; exact b52)
      clear b50 b51 b52 f50 f51 f52 B5 G5 ha hb hc BB GG hbox
      generalize (((w5.setCell ⟨gb, 0, none⟩ (.int .i64 0)).setCell ⟨gb, 1, none⟩ (.int .i64 1)).setCell ⟨gb, 2, none⟩ (.int .i64 3)) = w6 at *
      have hg6 : Aside0 (w6.cell? ⟨g, 0, none⟩ = some (.int .i64 2)) := ⟨cell_of_row _ g 0 _ _ (0, 0) G6.out⟩
      go_wp2_with (first
        | (go_at_call 46; refine (point_q g _ (by first | exact .inl rfl | exact .inr rfl) _ hg6.out).mono ?_; rintro e w7 ⟨rfl, hw7⟩; cases hw7))
      go_roundg 0
      case measure => have := HK.out; omega
      case rel => exact ⟨1, rfl, ⟨by omega⟩, G6, B6⟩
    · clear HK
      go_wp2
      go_ret2
      exact ⟨g, rfl, GG.out, Nat.le_of_eq Hg.out.symm, BB.out⟩
end Go.Proofs.YtfbibheeogcacaaDoor.B
