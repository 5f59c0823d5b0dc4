/- bend.places of "LLL" with all joints bent. -/
import Derived.Test.YtfbibheeogcacaaDoorXF1
namespace Go.Proofs.YtfbibheeogcacaaDoor.B
open Go.RowKit Go.Proofs.YtfbibheeogcacaaDoorW.PrintWords Go.Proofs.YtfbibheeogcacaaDoorW.PrintLast Go.Proofs.YtfbibheeogcacaaDoorW.PrintMore
set_option linter.unusedVariables false
set_option linter.unusedSimpArgs false
abbrev LLL : ByteArray := { data := #[76, 76, 76] }
def plL : List S77 := [⟨0, 0⟩, ⟨1, 0⟩, ⟨1, 1⟩, ⟨0, 1⟩, ⟨0, 0⟩]
/-- The rounds of places: how many are left, the round's number, the places so far, the way. -/
def StL (k : Nat) (j : Int) (xs : List S77) (d : S77) : Prop :=
  (k = 3 ∧ j = 0 ∧ xs = [⟨0, 0⟩, ⟨1, 0⟩] ∧ d = ⟨1, 0⟩) ∨ (k = 2 ∧ j = 1 ∧ xs = [⟨0, 0⟩, ⟨1, 0⟩, ⟨1, 1⟩] ∧ d = ⟨0, 1⟩) ∨
  (k = 1 ∧ j = 2 ∧ xs = [⟨0, 0⟩, ⟨1, 0⟩, ⟨1, 1⟩, ⟨0, 1⟩] ∧ d = ⟨-1, 0⟩) ∨ (k = 0 ∧ j = 3 ∧ xs = plL ∧ d = ⟨0, -1⟩)
set_option maxHeartbeats 2000000 in
set_option maxRecDepth 100000 in
theorem places_LLL (w : World) (bm : Nat) (hg : w.cell? ⟨0, 0, none⟩ = some (.map (some bm))) (hl : ∀ W, Below w.heap.size w W → (Instr.lookup 80 (.map (some bm)) (.int .u8 76) false).run Tryd.prog W = .ok (.func (.func 115) #[] #[]) W) :
    Calls Tryd.prog 34 #[.string LLL, .int .i64 7] w fun e w' => ∃ A c, e = .returned (.slice A 5 c) ∧ Kd.C k77 w' A 5 plL ∧ Below w.heap.size w w' := by
  have HG := Aside0.mk hg
  have HL := Aside0.mk hl
  clear hg hl
  go_enter Tryd.func34, Tryd.ntmps34
  have HB0 := Aside0.mk (below_alloc (Below.refl w.heap.size w) (.cells #[.int .i64 1, .int .i64 0] 77))
  have HD0 : Aside0 ((w.alloc (.cells #[.int .i64 1, .int .i64 0] 77)).heap[w.heap.size]? = some (.cells #[.int .i64 1, .int .i64 0] 77 (0, 0))) := ⟨blk_new _ _⟩
  have hsz : (w.alloc (.cells #[.int .i64 1, .int .i64 0] 77)).heap.size = w.heap.size + 1 := size_alloc1 _ _
  have rp : ∀ W base okp, Reps (k77.M W base okp) 2 ([⟨0, 0⟩, ⟨1, 0⟩] : List S77) [.int .i64 0, .int .i64 0, .int .i64 1, .int .i64 0] := fun W base okp =>
    Reps.snoc (ps := [⟨0, 0⟩]) (cs := [.int .i64 0, .int .i64 0]) (c := [.int .i64 1, .int .i64 0]) (Reps.snoc (ps := []) (cs := []) (c := [.int .i64 0, .int .i64 0]) (Reps.none _ _) (k77_mkM _ _ _ ⟨0, 0⟩) rfl) (k77_mkM _ _ _ ⟨1, 0⟩) rfl
  go_wp2_with (first | ((with_reducible refine gate_dst (N := 12) rfl ?_); (try (refine gate_guard (by rfl) ?_; dsimp only)); refine Kd.R_lit k77 w.heap.size 77 ?hg (N := 12) ?hd (xs := ([⟨0, 0⟩, ⟨1, 0⟩] : List S77)) (inner := [.int .i64 0, .int .i64 0, .int .i64 1, .int .i64 0]) (ok := fun k => k ≠ w.heap.size) (okp := fun _ => False) ?hr ?hp (fun _ hk => hk.elim) (by rw [hsz]; omega) HB0.out (by rw [hsz]; omega) (by simp) ?_; (case hd => rfl); (case hg => rfl); (case hr => first | (go_simp; done) | (go_simp; rfl)); (case hp => exact rp _ _ _); intro v12 w1 ho5 hb hg_ hnew_; have HO := Aside0.mk ho5; have HB1 := Aside0.mk hb; have HD1 := Aside0.mk (blk_grown HD0.out hg_ (by simp)); clear hg_ hnew_ ho5 hb))
  have hgp : Aside0 (w.heap.size ≤ w.heap.size) := ⟨Nat.le_refl _⟩
  clear HB0 HD0 hsz rp
  generalize hgq : w.heap.size = gp at HO HD1 ⊢
  go_loopg [6, 15] 3 (fun gk v6 v15 w' => ∃ (xs : List S77) (d : S77) (j : Int), v15 = .int .i64 j ∧ Aside0 (StL gk j xs d) ∧ Aside0 (Kd.R k77 77 w' gp (fun k => k ≠ gp) v6 xs) ∧ Aside0 (w'.heap[gp]? = some (.cells #[.int .i64 d.f0, .int .i64 d.f1] 77 (0, 0))) ∧ Aside0 (Below w.heap.size w w'))
  case atStart => exact ⟨[⟨0, 0⟩, ⟨1, 0⟩], ⟨1, 0⟩, 0, rfl, ⟨.inl ⟨rfl, rfl, rfl, rfl⟩⟩, HO, HD1, ⟨hgq ▸ HB1.out⟩⟩
  case round =>
    clear HO HD1 HB1
    obtain ⟨xs, d, j, rfl, HS, HO, HD, HB⟩ := hrel
    rcases HS.out with ⟨rfl, rfl, rfl, rfl⟩ | ⟨rfl, rfl, rfl, rfl⟩ | ⟨rfl, rfl, rfl, rfl⟩ | ⟨rfl, rfl, rfl, rfl⟩
    · have hgw : wr.cell? ⟨0, 0, none⟩ = some (.map (some bm)) := keepc HB.out HG.out
      have hlq := HL.out wr.drew (below_drew HB.out)
      have HDd := Aside0.mk (blk_drew HD.out)
      have hd0 : wr.cell? ⟨gp, 0, none⟩ = some (.int .i64 (1)) := (blk_cell HD.out 0).trans rfl
      have hd1 : wr.cell? ⟨gp, 1, none⟩ = some (.int .i64 (0)) := (blk_cell HD.out 1).trans rfl
      have HT : Aside0 (∀ W, Calls Tryd.prog 115 #[.agg #[.int .i64 (1), .int .i64 (0)]] W fun e w' => e = .returned (.agg #[.int .i64 (0), .int .i64 (1)]) ∧ Below W.heap.size W w') := ⟨fun W => by have h := turn_left (1) (0) W; rwa [show wrap64 (-(0)) = 0 by first | rfl | decide +kernel] at h⟩
      have hk0 : ∀ h, (LLL[0]'h).toNat = 76 := fun _ => rfl
      have hc76 : ((76 : Nat) : Int) = 76 := rfl
      go_upto_region 7 with (fail)
      go_cut [23, 24, 25, 26, 27, 28, 29] (fun v23 v24 v25 v26 v27 v28 v29 wc => Aside0 (Below w.heap.size w wc) ∧ Aside0 (wc.heap[gp]? = some (.cells #[.int .i64 (0), .int .i64 (1)] 77 (0, 0))) ∧ Aside0 (Kd.R k77 77 wc gp (fun k => k ≠ gp) u6 [⟨0, 0⟩, ⟨1, 0⟩]))
      case first =>
        rename_i J0 K0 hJ0 hK0
        go_region_law (first | (go_simp; go_at_call 115; refine (HT.out _).mono ?_; rintro e w5 ⟨rfl, b5⟩; have B5 := Aside0.mk b5; clear b5; have HD5 := Aside0.mk (blk_below HDd.out B5.out); have h50 : w5.cell? ⟨gp, 0, none⟩ = some (.int .i64 _) := (blk_cell HD5.out 0).trans rfl; have h51 : w5.cell? ⟨gp, 1, none⟩ = some (.int .i64 _) := (blk_cell HD5.out 1).trans rfl; have f50 := blk_frozen HD5.out 0; have f51 := blk_frozen HD5.out 1))
        all_goals
          have HB6 : Aside0 (Below w.heap.size w ((w5.setCell ⟨gp, 0, none⟩ (.int .i64 (0))).setCell ⟨gp, 1, none⟩ (.int .i64 (1)))) := ⟨below_set (below_set (below_step (below_drew HB.out) B5.out) (by omega)) (by omega)⟩
          have HD6 : Aside0 (((w5.setCell ⟨gp, 0, none⟩ (.int .i64 (0))).setCell ⟨gp, 1, none⟩ (.int .i64 (1))).heap[gp]? = some (.cells #[.int .i64 (0), .int .i64 (1)] 77 (0, 0))) := ⟨blk_put (blk_put HD5.out 0 _ rfl) 1 _ rfl⟩
          have HO6 : Aside0 (Kd.R k77 77 ((w5.setCell ⟨gp, 0, none⟩ (.int .i64 (0))).setCell ⟨gp, 1, none⟩ (.int .i64 (1))) gp (fun k => k ≠ gp) u6 [⟨0, 0⟩, ⟨1, 0⟩]) := ⟨Kd.R_far (Kd.R_far (Kd.R_below (Kd.R_drew HO.out) B5.out) (fun _ h => h) _) (fun _ h => h) _⟩
          refine hK0 _ _ (Met.intro (hJ0 _ _ ?_))
          repeat apply Exists.intro
          exact ⟨⟨HB6, HD6, HO6⟩, rfl⟩
      case rest =>
      obtain ⟨HB6, HD6, HO6⟩ := hcut
      clear hd0 hd1 hlq hgw HDd HB HD HO HT
      rename World => W6
      obtain ⟨A6, c6, rfl, hc6, hC6⟩ := Kd.R_reads HO6.out
      have hd0 : W6.cell? ⟨gp, 0, none⟩ = some (.int .i64 (0)) := (blk_cell HD6.out 0).trans rfl
      have hd1 : W6.cell? ⟨gp, 1, none⟩ = some (.int .i64 (1)) := (blk_cell HD6.out 1).trans rfl
      obtain ⟨ad, rfl, hx0, hx1⟩ := at_T77 hC6 (1) (by decide) (by decide)
      replace hx0 : W6.cell? ⟨ad.block, ad.off + 2, none⟩ = some (.int .i64 (1)) := hx0
      replace hx1 : W6.cell? ⟨ad.block, ad.off + 2 + 1, none⟩ = some (.int .i64 (0)) := hx1
      clear hC6 hc6
      go_upto_region 9 with (fail)
      have HB7 : Aside0 (Below gp w (W6.alloc (.cells #[.int .i64 (1), .int .i64 (0)] 77))) := ⟨hgq ▸ below_alloc HB6.out _⟩
      have HO7 := Aside0.mk (Kd.R_alloc HO6.out (.cells #[.int .i64 (1), .int .i64 (0)] 77))
      have HD7 : Aside0 ((W6.alloc (.cells #[.int .i64 (1), .int .i64 (0)] 77)).heap[gp]? = some (.cells #[.int .i64 (0), .int .i64 (1)] 77 (0, 0))) := ⟨blk_alloc HD6.out _⟩
      replace hd0 : (W6.alloc (.cells #[.int .i64 (1), .int .i64 (0)] 77)).cell? ⟨gp, 0, none⟩ = some (.int .i64 (0)) := (blk_cell HD7.out 0).trans rfl
      replace hd1 : (W6.alloc (.cells #[.int .i64 (1), .int .i64 (0)] 77)).cell? ⟨gp, 1, none⟩ = some (.int .i64 (1)) := (blk_cell HD7.out 1).trans rfl
      have hl0 : (W6.alloc (.cells #[.int .i64 (1), .int .i64 (0)] 77)).cell? ⟨W6.heap.size, 0, none⟩ = some (.int .i64 (1)) := (blk_cell (blk_new W6 _) 0).trans rfl
      have hl1 : (W6.alloc (.cells #[.int .i64 (1), .int .i64 (0)] 77)).cell? ⟨W6.heap.size, 1, none⟩ = some (.int .i64 (0)) := (blk_cell (blk_new W6 _) 1).trans rfl
      clear hx0 hx1 HO6 HB6 HD6
      generalize W6.alloc (.cells #[.int .i64 (1), .int .i64 (0)] 77) = W7 at HB7 HO7 HD7 hd0 hd1 hl0 hl1 ⊢
      generalize W6.heap.size = gl at hl0 hl1 ⊢
      go_wp2_with (first | ((with_reducible refine gate_builtin (b := .append) (xs := #[.tmp 36, .tmp 48]) rfl ?_); (try (refine gate_guard (by rfl) ?_; dsimp only)); at_builtin; refine Kd.R_append k77 (w0 := w) gp rfl (.tmp 36) (.tmp 48) 65 77 (.agg #[(.int .i64 0), (.int .i64 0)]) 16 rfl Tryd.underlying65 info77 rfl (by decide) (by omega) (.slice (some ad) 2 c6) [⟨0, 0⟩, ⟨1, 0⟩] (⟨1, 1⟩ : S77) [.int .i64 (1), .int .i64 (1)] (fun k => k ≠ gp) (fun _ => False) rfl rfl (k77_mkM _ _ _ (⟨1, 1⟩ : S77)) (fun _ hk => hk.elim) (fun k hk => Kd.freshB HD7.out k hk) HO7.out HB7.out (hgq ▸ below_size (hgq ▸ HB7.out)) (by decide) ?_; intro v9 w9 ho hb hg hat; have HO9 := Aside0.mk ho; have HB9 := Aside0.mk hb; have HD9 := Aside0.mk (blk_grown HD7.out hg (fun h => HO7.out.1 gp h.symm rfl)); clear ho hb hg hat))
      go_roundg 2
      case measure => decide
      case rel => exact ⟨[⟨0, 0⟩, ⟨1, 0⟩, ⟨1, 1⟩], ⟨0, 1⟩, 1, rfl, ⟨.inr (.inl ⟨rfl, rfl, rfl, rfl⟩)⟩, HO9, HD9, ⟨hgq ▸ HB9.out⟩⟩
    · have hgw : wr.cell? ⟨0, 0, none⟩ = some (.map (some bm)) := keepc HB.out HG.out
      have hlq := HL.out wr.drew (below_drew HB.out)
      have HDd := Aside0.mk (blk_drew HD.out)
      have hd0 : wr.cell? ⟨gp, 0, none⟩ = some (.int .i64 (0)) := (blk_cell HD.out 0).trans rfl
      have hd1 : wr.cell? ⟨gp, 1, none⟩ = some (.int .i64 (1)) := (blk_cell HD.out 1).trans rfl
      have HT : Aside0 (∀ W, Calls Tryd.prog 115 #[.agg #[.int .i64 (0), .int .i64 (1)]] W fun e w' => e = .returned (.agg #[.int .i64 (-1), .int .i64 (0)]) ∧ Below W.heap.size W w') := ⟨fun W => by have h := turn_left (0) (1) W; rwa [show wrap64 (-(1)) = -1 by first | rfl | decide +kernel] at h⟩
      have hk0 : ∀ h, (LLL[1]'h).toNat = 76 := fun _ => rfl
      have hc76 : ((76 : Nat) : Int) = 76 := rfl
      go_upto_region 7 with (fail)
      go_cut [23, 24, 25, 26, 27, 28, 29] (fun v23 v24 v25 v26 v27 v28 v29 wc => Aside0 (Below w.heap.size w wc) ∧ Aside0 (wc.heap[gp]? = some (.cells #[.int .i64 (-1), .int .i64 (0)] 77 (0, 0))) ∧ Aside0 (Kd.R k77 77 wc gp (fun k => k ≠ gp) u6 [⟨0, 0⟩, ⟨1, 0⟩, ⟨1, 1⟩]))
      case first =>
        rename_i J0 K0 hJ0 hK0
        go_region_law (first | (go_simp; go_at_call 115; refine (HT.out _).mono ?_; rintro e w5 ⟨rfl, b5⟩; have B5 := Aside0.mk b5; clear b5; have HD5 := Aside0.mk (blk_below HDd.out B5.out); have h50 : w5.cell? ⟨gp, 0, none⟩ = some (.int .i64 _) := (blk_cell HD5.out 0).trans rfl; have h51 : w5.cell? ⟨gp, 1, none⟩ = some (.int .i64 _) := (blk_cell HD5.out 1).trans rfl; have f50 := blk_frozen HD5.out 0; have f51 := blk_frozen HD5.out 1))
        all_goals
          have HB6 : Aside0 (Below w.heap.size w ((w5.setCell ⟨gp, 0, none⟩ (.int .i64 (-1))).setCell ⟨gp, 1, none⟩ (.int .i64 (0)))) := ⟨below_set (below_set (below_step (below_drew HB.out) B5.out) (by omega)) (by omega)⟩
          have HD6 : Aside0 (((w5.setCell ⟨gp, 0, none⟩ (.int .i64 (-1))).setCell ⟨gp, 1, none⟩ (.int .i64 (0))).heap[gp]? = some (.cells #[.int .i64 (-1), .int .i64 (0)] 77 (0, 0))) := ⟨blk_put (blk_put HD5.out 0 _ rfl) 1 _ rfl⟩
          have HO6 : Aside0 (Kd.R k77 77 ((w5.setCell ⟨gp, 0, none⟩ (.int .i64 (-1))).setCell ⟨gp, 1, none⟩ (.int .i64 (0))) gp (fun k => k ≠ gp) u6 [⟨0, 0⟩, ⟨1, 0⟩, ⟨1, 1⟩]) := ⟨Kd.R_far (Kd.R_far (Kd.R_below (Kd.R_drew HO.out) B5.out) (fun _ h => h) _) (fun _ h => h) _⟩
          refine hK0 _ _ (Met.intro (hJ0 _ _ ?_))
          repeat apply Exists.intro
          exact ⟨⟨HB6, HD6, HO6⟩, rfl⟩
      case rest =>
      obtain ⟨HB6, HD6, HO6⟩ := hcut
      clear hd0 hd1 hlq hgw HDd HB HD HO HT
      rename World => W6
      obtain ⟨A6, c6, rfl, hc6, hC6⟩ := Kd.R_reads HO6.out
      have hd0 : W6.cell? ⟨gp, 0, none⟩ = some (.int .i64 (-1)) := (blk_cell HD6.out 0).trans rfl
      have hd1 : W6.cell? ⟨gp, 1, none⟩ = some (.int .i64 (0)) := (blk_cell HD6.out 1).trans rfl
      obtain ⟨ad, rfl, hx0, hx1⟩ := at_T77 hC6 (2) (by decide) (by decide)
      replace hx0 : W6.cell? ⟨ad.block, ad.off + 4, none⟩ = some (.int .i64 (1)) := hx0
      replace hx1 : W6.cell? ⟨ad.block, ad.off + 4 + 1, none⟩ = some (.int .i64 (1)) := hx1
      clear hC6 hc6
      go_upto_region 9 with (fail)
      have HB7 : Aside0 (Below gp w (W6.alloc (.cells #[.int .i64 (1), .int .i64 (1)] 77))) := ⟨hgq ▸ below_alloc HB6.out _⟩
      have HO7 := Aside0.mk (Kd.R_alloc HO6.out (.cells #[.int .i64 (1), .int .i64 (1)] 77))
      have HD7 : Aside0 ((W6.alloc (.cells #[.int .i64 (1), .int .i64 (1)] 77)).heap[gp]? = some (.cells #[.int .i64 (-1), .int .i64 (0)] 77 (0, 0))) := ⟨blk_alloc HD6.out _⟩
      replace hd0 : (W6.alloc (.cells #[.int .i64 (1), .int .i64 (1)] 77)).cell? ⟨gp, 0, none⟩ = some (.int .i64 (-1)) := (blk_cell HD7.out 0).trans rfl
      replace hd1 : (W6.alloc (.cells #[.int .i64 (1), .int .i64 (1)] 77)).cell? ⟨gp, 1, none⟩ = some (.int .i64 (0)) := (blk_cell HD7.out 1).trans rfl
      have hl0 : (W6.alloc (.cells #[.int .i64 (1), .int .i64 (1)] 77)).cell? ⟨W6.heap.size, 0, none⟩ = some (.int .i64 (1)) := (blk_cell (blk_new W6 _) 0).trans rfl
      have hl1 : (W6.alloc (.cells #[.int .i64 (1), .int .i64 (1)] 77)).cell? ⟨W6.heap.size, 1, none⟩ = some (.int .i64 (1)) := (blk_cell (blk_new W6 _) 1).trans rfl
      clear hx0 hx1 HO6 HB6 HD6
      generalize W6.alloc (.cells #[.int .i64 (1), .int .i64 (1)] 77) = W7 at HB7 HO7 HD7 hd0 hd1 hl0 hl1 ⊢
      generalize W6.heap.size = gl at hl0 hl1 ⊢
      go_wp2_with (first | ((with_reducible refine gate_builtin (b := .append) (xs := #[.tmp 36, .tmp 48]) rfl ?_); (try (refine gate_guard (by rfl) ?_; dsimp only)); at_builtin; refine Kd.R_append k77 (w0 := w) gp rfl (.tmp 36) (.tmp 48) 65 77 (.agg #[(.int .i64 0), (.int .i64 0)]) 16 rfl Tryd.underlying65 info77 rfl (by decide) (by omega) (.slice (some ad) 3 c6) [⟨0, 0⟩, ⟨1, 0⟩, ⟨1, 1⟩] (⟨0, 1⟩ : S77) [.int .i64 (0), .int .i64 (1)] (fun k => k ≠ gp) (fun _ => False) rfl rfl (k77_mkM _ _ _ (⟨0, 1⟩ : S77)) (fun _ hk => hk.elim) (fun k hk => Kd.freshB HD7.out k hk) HO7.out HB7.out (hgq ▸ below_size (hgq ▸ HB7.out)) (by decide) ?_; intro v9 w9 ho hb hg hat; have HO9 := Aside0.mk ho; have HB9 := Aside0.mk hb; have HD9 := Aside0.mk (blk_grown HD7.out hg (fun h => HO7.out.1 gp h.symm rfl)); clear ho hb hg hat))
      go_roundg 1
      case measure => decide
      case rel => exact ⟨[⟨0, 0⟩, ⟨1, 0⟩, ⟨1, 1⟩, ⟨0, 1⟩], ⟨-1, 0⟩, 2, rfl, ⟨.inr (.inr (.inl ⟨rfl, rfl, rfl, rfl⟩))⟩, HO9, HD9, ⟨hgq ▸ HB9.out⟩⟩
    · have hgw : wr.cell? ⟨0, 0, none⟩ = some (.map (some bm)) := keepc HB.out HG.out
      have hlq := HL.out wr.drew (below_drew HB.out)
      have HDd := Aside0.mk (blk_drew HD.out)
      have hd0 : wr.cell? ⟨gp, 0, none⟩ = some (.int .i64 (-1)) := (blk_cell HD.out 0).trans rfl
      have hd1 : wr.cell? ⟨gp, 1, none⟩ = some (.int .i64 (0)) := (blk_cell HD.out 1).trans rfl
      have HT : Aside0 (∀ W, Calls Tryd.prog 115 #[.agg #[.int .i64 (-1), .int .i64 (0)]] W fun e w' => e = .returned (.agg #[.int .i64 (0), .int .i64 (-1)]) ∧ Below W.heap.size W w') := ⟨fun W => by have h := turn_left (-1) (0) W; rwa [show wrap64 (-(0)) = 0 by first | rfl | decide +kernel] at h⟩
      have hk0 : ∀ h, (LLL[2]'h).toNat = 76 := fun _ => rfl
      have hc76 : ((76 : Nat) : Int) = 76 := rfl
      go_upto_region 7 with (fail)
      go_cut [23, 24, 25, 26, 27, 28, 29] (fun v23 v24 v25 v26 v27 v28 v29 wc => Aside0 (Below w.heap.size w wc) ∧ Aside0 (wc.heap[gp]? = some (.cells #[.int .i64 (0), .int .i64 (-1)] 77 (0, 0))) ∧ Aside0 (Kd.R k77 77 wc gp (fun k => k ≠ gp) u6 [⟨0, 0⟩, ⟨1, 0⟩, ⟨1, 1⟩, ⟨0, 1⟩]))
      case first =>
        rename_i J0 K0 hJ0 hK0
        go_region_law (first | (go_simp; go_at_call 115; refine (HT.out _).mono ?_; rintro e w5 ⟨rfl, b5⟩; have B5 := Aside0.mk b5; clear b5; have HD5 := Aside0.mk (blk_below HDd.out B5.out); have h50 : w5.cell? ⟨gp, 0, none⟩ = some (.int .i64 _) := (blk_cell HD5.out 0).trans rfl; have h51 : w5.cell? ⟨gp, 1, none⟩ = some (.int .i64 _) := (blk_cell HD5.out 1).trans rfl; have f50 := blk_frozen HD5.out 0; have f51 := blk_frozen HD5.out 1))
        all_goals
          have HB6 : Aside0 (Below w.heap.size w ((w5.setCell ⟨gp, 0, none⟩ (.int .i64 (0))).setCell ⟨gp, 1, none⟩ (.int .i64 (-1)))) := ⟨below_set (below_set (below_step (below_drew HB.out) B5.out) (by omega)) (by omega)⟩
          have HD6 : Aside0 (((w5.setCell ⟨gp, 0, none⟩ (.int .i64 (0))).setCell ⟨gp, 1, none⟩ (.int .i64 (-1))).heap[gp]? = some (.cells #[.int .i64 (0), .int .i64 (-1)] 77 (0, 0))) := ⟨blk_put (blk_put HD5.out 0 _ rfl) 1 _ rfl⟩
          have HO6 : Aside0 (Kd.R k77 77 ((w5.setCell ⟨gp, 0, none⟩ (.int .i64 (0))).setCell ⟨gp, 1, none⟩ (.int .i64 (-1))) gp (fun k => k ≠ gp) u6 [⟨0, 0⟩, ⟨1, 0⟩, ⟨1, 1⟩, ⟨0, 1⟩]) := ⟨Kd.R_far (Kd.R_far (Kd.R_below (Kd.R_drew HO.out) B5.out) (fun _ h => h) _) (fun _ h => h) _⟩
          refine hK0 _ _ (Met.intro (hJ0 _ _ ?_))
          repeat apply Exists.intro
          exact ⟨⟨HB6, HD6, HO6⟩, rfl⟩
      case rest =>
      obtain ⟨HB6, HD6, HO6⟩ := hcut
      clear hd0 hd1 hlq hgw HDd HB HD HO HT
      rename World => W6
      obtain ⟨A6, c6, rfl, hc6, hC6⟩ := Kd.R_reads HO6.out
      have hd0 : W6.cell? ⟨gp, 0, none⟩ = some (.int .i64 (0)) := (blk_cell HD6.out 0).trans rfl
      have hd1 : W6.cell? ⟨gp, 1, none⟩ = some (.int .i64 (-1)) := (blk_cell HD6.out 1).trans rfl
      obtain ⟨ad, rfl, hx0, hx1⟩ := at_T77 hC6 (3) (by decide) (by decide)
      replace hx0 : W6.cell? ⟨ad.block, ad.off + 6, none⟩ = some (.int .i64 (0)) := hx0
      replace hx1 : W6.cell? ⟨ad.block, ad.off + 6 + 1, none⟩ = some (.int .i64 (1)) := hx1
      clear hC6 hc6
      go_upto_region 9 with (fail)
      have HB7 : Aside0 (Below gp w (W6.alloc (.cells #[.int .i64 (0), .int .i64 (1)] 77))) := ⟨hgq ▸ below_alloc HB6.out _⟩
      have HO7 := Aside0.mk (Kd.R_alloc HO6.out (.cells #[.int .i64 (0), .int .i64 (1)] 77))
      have HD7 : Aside0 ((W6.alloc (.cells #[.int .i64 (0), .int .i64 (1)] 77)).heap[gp]? = some (.cells #[.int .i64 (0), .int .i64 (-1)] 77 (0, 0))) := ⟨blk_alloc HD6.out _⟩
      replace hd0 : (W6.alloc (.cells #[.int .i64 (0), .int .i64 (1)] 77)).cell? ⟨gp, 0, none⟩ = some (.int .i64 (0)) := (blk_cell HD7.out 0).trans rfl
      replace hd1 : (W6.alloc (.cells #[.int .i64 (0), .int .i64 (1)] 77)).cell? ⟨gp, 1, none⟩ = some (.int .i64 (-1)) := (blk_cell HD7.out 1).trans rfl
      have hl0 : (W6.alloc (.cells #[.int .i64 (0), .int .i64 (1)] 77)).cell? ⟨W6.heap.size, 0, none⟩ = some (.int .i64 (0)) := (blk_cell (blk_new W6 _) 0).trans rfl
      have hl1 : (W6.alloc (.cells #[.int .i64 (0), .int .i64 (1)] 77)).cell? ⟨W6.heap.size, 1, none⟩ = some (.int .i64 (1)) := (blk_cell (blk_new W6 _) 1).trans rfl
      clear hx0 hx1 HO6 HB6 HD6
      generalize W6.alloc (.cells #[.int .i64 (0), .int .i64 (1)] 77) = W7 at HB7 HO7 HD7 hd0 hd1 hl0 hl1 ⊢
      generalize W6.heap.size = gl at hl0 hl1 ⊢
      go_wp2_with (first | ((with_reducible refine gate_builtin (b := .append) (xs := #[.tmp 36, .tmp 48]) rfl ?_); (try (refine gate_guard (by rfl) ?_; dsimp only)); at_builtin; refine Kd.R_append k77 (w0 := w) gp rfl (.tmp 36) (.tmp 48) 65 77 (.agg #[(.int .i64 0), (.int .i64 0)]) 16 rfl Tryd.underlying65 info77 rfl (by decide) (by omega) (.slice (some ad) 4 c6) [⟨0, 0⟩, ⟨1, 0⟩, ⟨1, 1⟩, ⟨0, 1⟩] (⟨0, 0⟩ : S77) [.int .i64 (0), .int .i64 (0)] (fun k => k ≠ gp) (fun _ => False) rfl rfl (k77_mkM _ _ _ (⟨0, 0⟩ : S77)) (fun _ hk => hk.elim) (fun k hk => Kd.freshB HD7.out k hk) HO7.out HB7.out (hgq ▸ below_size (hgq ▸ HB7.out)) (by decide) ?_; intro v9 w9 ho hb hg hat; have HO9 := Aside0.mk ho; have HB9 := Aside0.mk hb; have HD9 := Aside0.mk (blk_grown HD7.out hg (fun h => HO7.out.1 gp h.symm rfl)); clear ho hb hg hat))
      go_roundg 0
      case measure => decide
      case rel => exact ⟨[⟨0, 0⟩, ⟨1, 0⟩, ⟨1, 1⟩, ⟨0, 1⟩, ⟨0, 0⟩], ⟨0, -1⟩, 3, rfl, ⟨.inr (.inr (.inr ⟨rfl, rfl, rfl, rfl⟩))⟩, HO9, HD9, ⟨hgq ▸ HB9.out⟩⟩
    · obtain ⟨A6, c6, rfl, hc6, hC6⟩ := Kd.R_reads HO.out
      have HC := Aside0.mk hC6
      clear hC6 hc6 HO HD
      go_wp2
      go_ret
      exact ⟨A6, c6, rfl, HC.out, HB.out⟩
end Go.Proofs.YtfbibheeogcacaaDoor.B
