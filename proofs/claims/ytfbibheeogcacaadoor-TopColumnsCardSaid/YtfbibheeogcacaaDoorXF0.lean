/- Places: pairs of numbers as arrays; bend's turn to the left; Index of a place. -/
import Derived.Test.YtfbibheeogcacaaDoorXC5
import Derived.Laws.Rows
import Derived.Laws.StructEq
import Derived.ChangeKeysEq
namespace Go.Proofs.YtfbibheeogcacaaDoor.B
open Go.RowKit Go.Proofs.YtfbibheeogcacaaDoorW.PrintWords Go.Proofs.YtfbibheeogcacaaDoorW.PrintLast Go.Proofs.YtfbibheeogcacaaDoorW.PrintMore
set_option linter.unusedVariables false
set_option linter.unusedSimpArgs false
structure S77 where
  f0 : Int
  f1 : Int
  deriving DecidableEq
def z77 : S77 := ⟨(0 : Int), (0 : Int)⟩
def k77 : Kd S77 := Kd.iso (Kd.pair (Kd.int .i64) (Kd.int .i64)) (fun x : S77 => (x.f0, x.f1))
theorem k77_open {w : World} {x : S77} {cs : List Value} (h : k77.K w x cs) : cs = [.int .i64 x.f0, .int .i64 x.f1] := by
  obtain ⟨a, b, rfl, rfl, rfl⟩ := h
  rfl
theorem k77_mk (w : World) (x : S77) : k77.K w x [.int .i64 x.f0, .int .i64 x.f1] := ⟨[.int .i64 x.f0], [.int .i64 x.f1], rfl, rfl, rfl⟩
theorem k77_mkM (w : World) (base : Nat) (ok : Nat → Prop) (x : S77) : k77.M w base ok x [.int .i64 x.f0, .int .i64 x.f1] := ⟨[.int .i64 x.f0], [.int .i64 x.f1], rfl, rfl, rfl⟩
def rd_T77 (xs : List S77) (i : Int) : S77 := xs.getD i.toNat z77
theorem at_T77 {w : World} {A : Option Addr} {n : Nat} {xs : List S77} (h : Kd.C k77 w A n xs) (i : Int) (h0 : 0 ≤ i) (h1 : i < n) : ∃ ad, A = some ad ∧ w.cell? (ad.add (i.toNat * 2)) = some (.int .i64 (rd_T77 xs i).f0) ∧ w.cell? ⟨(ad.add (i.toNat * 2)).block, (ad.add (i.toNat * 2)).off + 1, none⟩ = some (.int .i64 (rd_T77 xs i).f1) := by
  obtain ⟨ad, c, e, _, hK, hc0⟩ := Kd.C_get h z77 i h0 h1
  have hc : ∀ j u, c[j]? = some u → w.cell? (ad.add (i.toNat * 2 + j)) = some u := hc0
  obtain rfl := k77_open hK
  exact ⟨ad, e, hc 0 _ rfl, by rw [← add_field _ _ 1 (by omega)]; exact hc 1 _ rfl⟩
theorem info77 : (Tryd.prog.info? 77).map (fun i => (i.zero, i.size, i.bytes)) = some (some (.agg #[.int .i64 0, .int .i64 0]), 2, 16) := by kernel_rfl
set_option maxHeartbeats 800000 in
set_option maxRecDepth 100000 in
theorem turn_left (a b : Int) (w : World) : Calls Tryd.prog 115 #[.agg #[.int .i64 a, .int .i64 b]] w fun e w' => e = .returned (.agg #[.int .i64 (wrap64 (-b)), .int .i64 a]) ∧ Below w.heap.size w w' := by
  go_enter Tryd.func115, Tryd.ntmps115
  go_wp2
  have hb := blk_new (w.alloc (.cells #[.int .i64 a, .int .i64 b] 77)) (.cells #[.int .i64 (wrap64 (-b)), .int .i64 a] 77)
  rw [size_alloc1] at hb
  refine bodyPost_ret (results_cell_row rfl _ _ (w.heap.size + 1) 77 _ (0, 0) _ rfl hb Tryd.underlying77 rfl (by kernel_rfl)) rfl ?_
  exact ⟨rfl, by repeat (first | exact Below.refl _ _ | apply below_alloc)⟩
theorem eqlRunG {P : Program} {k' : IntKind} {i : TypeInfo} (t e : TypeId) (hu : P.underlying t = some (.array 2 e)) (hi : P.info? e = some i) (hc : P.cellsOf e = 1) (h3 : P.underlying e = some (.int k')) (k : IntKind) (a b c d : Int) (W : World) : (binOp .eql t (.agg #[.int k a, .int k b]) (.agg #[.int k c, .int k d])).run P W = .ok (.bool (a == c && b == d)) W := by
  rw [run_eql_struct, run_equalIn_array W 9999 _ _ hu hi, hc]
  have p1 : ∀ (xs : Array Value) (v : Value) (o : Nat) (w : World), xs[o]? = some v → (part e xs o).run P w = .ok v w := by
    intro xs v o w h
    exact run_part_plain w (by simp [Program.plainKey, h3]) h
  simp only [show List.range 2 = [0, 1] from rfl, Op.eqItems, Sem.run_bind]
  rw [p1 _ (.int k a) _ _ rfl, Result.andThen_ok, p1 _ (.int k c) _ _ rfl, Result.andThen_ok, run_equalIn_int _ _ _ _ _ _ _ h3, Result.andThen_ok]
  cases h : a == c
  · simp
  · simp only [Bool.not_true, Bool.false_eq_true, if_false, Sem.run_bind]
    rw [p1 _ (.int k b) _ _ rfl, Result.andThen_ok, p1 _ (.int k d) _ _ rfl, Result.andThen_ok, run_equalIn_int _ _ _ _ _ _ _ h3, Result.andThen_ok]
    cases h : b == d <;> simp
set_option maxRecDepth 100000 in
theorem cells3 : Tryd.prog.cellsOf 3 = 1 := by kernel_rfl
set_option maxRecDepth 100000 in
theorem eqlRun (a b c d : Int) (W : World) : (binOp .eql 77 (.agg #[.int .i64 a, .int .i64 b]) (.agg #[.int .i64 c, .int .i64 d])).run Tryd.prog W = .ok (.bool (a == c && b == d)) W :=
  (match h : Tryd.prog.info? 3 with
    | some i => eqlRunG 77 3 Tryd.underlying77 h cells3 Tryd.underlying3 .i64 a b c d W
    | none => by exfalso; have := (show (Tryd.prog.info? 3).isSome = true by kernel_rfl); rw [h] at this; cases this)
set_option maxRecDepth 100000 in
theorem guard77 : Tryd.prog.eqGuardType Tryd.prog.depth 77 = false := by kernel_rfl
set_option maxHeartbeats 2000000 in
set_option maxRecDepth 100000 in
/-- Index of a place. -/
theorem Index_place (A0 : Option Addr) (c0 : Nat) (l : List S77) (p : S77) (w : World) (hr : Kd.C k77 w A0 l.length l) (hl : l.length ≤ 100) :
    Calls Tryd.prog 44 #[.slice A0 l.length c0, .agg #[.int .i64 p.f0, .int .i64 p.f1]] w fun e w' => e = .returned (.int .i64 (idxB (fun i => p.f0 == (rd_T77 l (i : Int)).f0 && p.f1 == (rd_T77 l (i : Int)).f1) l.length 0)) ∧ Below w.heap.size w w' := by
  have HR := Aside0.mk hr
  generalize hcc : (fun i : Nat => p.f0 == (rd_T77 l (i : Int)).f0 && p.f1 == (rd_T77 l (i : Int)).f1) = c
  have HCC : Aside0 (∀ i, c i = (p.f0 == (rd_T77 l (i : Int)).f0 && p.f1 == (rd_T77 l (i : Int)).f1)) := ⟨fun i => by rw [← hcc]⟩
  have HB0 := Aside0.mk (below_alloc (Below.refl w.heap.size w) (.cells #[.int .i64 p.f0, .int .i64 p.f1] 77))
  have HG : Aside0 ((w.alloc (.cells #[.int .i64 p.f0, .int .i64 p.f1] 77)).heap[w.heap.size]? = some (.cells #[.int .i64 p.f0, .int .i64 p.f1] 77 (0, 0))) := ⟨blk_new _ _⟩
  clear hr hcc
  go_enter Tryd.func44, Tryd.ntmps44
  go_wp2
  generalize hgp : w.heap.size = gp at HG ⊢
  clear hgp
  generalize w.alloc (.cells #[.int .i64 p.f0, .int .i64 p.f1] 77) = W0 at HG HB0 ⊢
  go_loopg [8] l.length (fun gk v8 w' => ∃ i : Nat, v8 = .int .i64 (i : Int) ∧ i ≤ l.length ∧ Aside0 (gk = l.length - i) ∧ Aside0 (idxB c l.length 0 = idxB c (l.length - i) i) ∧ Aside0 (Below w.heap.size w w') ∧ Aside0 (Below W0.heap.size W0 w'))
  case atStart => exact ⟨0, rfl, by omega, ⟨rfl⟩, ⟨rfl⟩, HB0, ⟨Below.refl _ _⟩⟩
  case round =>
    clear HB0
    obtain ⟨i, rfl, hi, HK, HI, HB, HB2⟩ := hrel
    by_cases hlt : i < l.length
    · obtain ⟨ad, e0, hx0, hx1⟩ := at_T77 (Kd.C_below HR.out HB.out) (i : Int) (by omega) (by omega)
      cases e0
      rw [Int.toNat_natCast] at hx0 hx1
      have HN : Aside0 (idxB c (l.length - i) i = if c i = true then (i : Int) else idxB c (l.length - (i + 1)) (i + 1)) := ⟨by rw [show l.length - i = (l.length - (i + 1)) + 1 by omega]; rfl⟩
      have hg := blk_below HG.out HB2.out
      have hp0 : wr.cell? ⟨gp, 0, none⟩ = some (.int .i64 p.f0) := (blk_cell hg 0).trans rfl
      have hp1 : wr.cell? ⟨gp, 1, none⟩ = some (.int .i64 p.f1) := (blk_cell hg 1).trans rfl
      have hci := HCC.out i
      generalize rd_T77 l (i : Int) = x at hx0 hx1 hci
      have hg77 := guard77
      obtain ⟨bb, hbb⟩ : ∃ bb, c i = bb := ⟨_, rfl⟩
      rw [hbb] at hci HN
      have heq : ∀ W, (binOp .eql 77 (.agg #[.int .i64 p.f0, .int .i64 p.f1]) (.agg #[.int .i64 x.f0, .int .i64 x.f1])).run Tryd.prog W = .ok (.bool (p.f0 == x.f0 && p.f1 == x.f1)) W := fun W => eqlRun _ _ _ _ W
      clear hbb HCC
      go_upto_region 4 with (fail)
      go_quiet (fail)
      rw [← hci]
      clear hci hx0 hx1 hp0 hp1 hg
      cases bb
      · go_wp2
        go_roundg (l.length - (i + 1))
        case measure => have := HK.out; omega
        case rel => exact ⟨i + 1, by go_num, by omega, ⟨rfl⟩, ⟨by rw [HI.out, HN.out, if_neg (by simp)]⟩, ⟨pw_below_drewN HB.out nq⟩, ⟨pw_below_drewN HB2.out nq⟩⟩
      · go_wp2
        go_ret
        exact ⟨by rw [HI.out, HN.out, if_pos trivial]; rfl, pw_below_drewN HB.out nq⟩
    · obtain rfl : i = l.length := by omega
      go_wp2
      go_ret
      exact ⟨by rw [HI.out, Nat.sub_self]; rfl, HB.out⟩
end Go.Proofs.YtfbibheeogcacaaDoor.B
