/- slices.Repeat of one number, twice (the closed case that tube.Double needs here): two numbers. -/
import Derived.Test.YtfbibheeogcacaaDoorBT
import Derived.Deep.DeepCutAuto
import Derived.Deep.RegionLaw
import Derived.StillTailTactics
namespace Go.Proofs.YtfbibheeogcacaaDoor.B
open Go.RowKit Go.Proofs.YtfbibheeogcacaaDoorW.PrintWords Go.Proofs.YtfbibheeogcacaaDoorW.PrintLast Go.Proofs.YtfbibheeogcacaaDoorW.PrintMore
set_option linter.unusedVariables false
set_option linter.unusedSimpArgs false
set_option maxHeartbeats 800000 in
set_option maxRecDepth 100000 in
theorem mul64_two (w : World) : Calls Tryd.prog 90 #[.int .u64 1, .int .u64 2] w fun e w' => e = .returned (.tuple #[.int .u64 0, .int .u64 2]) ∧ Drawn0 w w' := by
  go_enter Tryd.func90, Tryd.ntmps90
  go_wp2
  go_ret2

  exact ⟨by kernel_rfl, by repeat (first | exact Drawn0.refl _ | apply Drawn0.step)⟩
set_option maxHeartbeats 800000 in
set_option maxRecDepth 100000 in
theorem mul_two (w : World) : Calls Tryd.prog 79 #[.int .u64 1, .int .u64 2] w fun e w' => e = .returned (.tuple #[.int .u64 0, .int .u64 2]) ∧ Drawn0 w w' := by
  go_enter Tryd.func79, Tryd.ntmps79
  go_wp2_with (first | (go_at_call 90; refine (mul64_two _).mono ?_; rintro e w1 ⟨rfl, ⟨nd, rfl⟩⟩))
  go_ret2

  exact ⟨rfl, ⟨nd, rfl⟩⟩
theorem copy_run (W W1 : World) (A B : Option Addr) (a b c d : Nat) {P : Program} {o : Oper} {x : Act} (s y : Operand) (t : TypeId) (ho : o.op = .call { callee := .builtin .copy, args := #[s, y], argTypes := #[t, t] }) (hs : x.eval s = .slice A a b) (hx : x.eval y = .slice B c d) (v : Value)
    (hr : (Builtin.copy_ #[t, t] o.type #[.slice A a b, .slice B c d]).run P W = .ok v W1) : (execOp x.eval o).run P W = .ok (.value v) W1 := by
  unfold execOp
  simp only [ho, resolve, invoke, builtin, Sem.run_bind, Sem.run_pure, Result.andThen_ok, List.map_toArray, List.map_cons, List.map_nil, hs, hx, hr]
theorem copy_step {P : Program} {ops : Array Oper} {o : Oper} {a : Act} {Q : Exit → Act → World → Prop} {Kc : Act → World → Prop} (W W1 : World) (hw : Region.wanted o (yielded ops a.tmps) = true) (s y : Operand) (t : TypeId) (ho : o.op = .call { callee := .builtin .copy, args := #[s, y], argTypes := #[t, t] })
    (A B : Option Addr) (b c d e : Nat) (hs : a.eval s = .slice A b c) (hx : a.eval y = .slice B d e) (v : Value)
    (hr : (Builtin.copy_ #[t, t] o.type #[.slice A b c, .slice B d e]).run P W = .ok v W1) (h : Kc (a.put o.dst v) W1) : if Region.wanted o (yielded ops a.tmps) = true then Oper.wp P o a W Kc Q else Kc (a.put o.dst undef) W :=
  event_step hw (copy_run W W1 A B b c d e s y t ho hs hx v hr) h
theorem own_head {w : World} {base : Nat} {ok : Nat → Prop} {v : Value} {xs : List Int} (h : Kd.R (Kd.int .i64) 3 w base ok v xs) (n : Nat) (he : xs.length = n) (hn : 0 < xs.length) : ∃ g cap : Nat, v = .slice (some ⟨g, 0, none⟩) n cap ∧ n ≤ cap ∧ base ≤ g ∧ (∀ i, i < cap → (w.cell? ⟨g, i, none⟩).isSome = true) ∧ ∀ i, w.frozen? ⟨g, i, none⟩ = false := by
  subst he
  have hown := Kd.own_of_R h
  rcases hown.2 with ⟨_, hx0⟩ | ⟨g, cap, cur, hv, hb, hh, hnc, hcm, hcs, htake⟩
  · omega
  · exact ⟨g, cap, hv, by omega, hb, fun i hi => by rw [cell_of_row w g _ cur _ (0, 0) hh]; simp; omega, fun i => blk_frozen hh _⟩
set_option maxHeartbeats 800000 in
set_option maxRecDepth 100000 in
theorem repeat_two (A : Option Addr) (c : Nat) (w : World) (hr0 : Kd.C (Kd.int .i64) w A 1 [481]) (hc0 : 1 ≤ c) :
    Calls Tryd.prog 62 #[.slice A 1 c, .int .i64 2] w fun e w' => ∃ v0_ : Value, e = .returned (v0_) ∧ Kd.R (Kd.int .i64) 3 w' w.heap.size (fun _ => True) v0_ [481, 481] ∧ Below w.heap.size w w' := by
  have HC := Aside0.mk hr0
  clear hr0
  go_enter Tryd.func62, Tryd.ntmps62
  go_upto_region 7 with (first
    | (go_at_call 79; refine (mul_two _).mono ?_; rintro e w1 ⟨rfl, ⟨nd, rfl⟩⟩)
    | ((with_reducible refine gate_dst (N := 30) rfl ?_); refine Kd.R_make (Kd.int .i64) _ 3 rfl (N := 30) rfl 24 _ _ rfl 2 rfl rfl Tryd.underlying24 (.int .i64 0) 8 info3 rfl (by decide) (by omega) 0 (ok := fun _ => True) (okp := fun _ => True) rfl (fun _ hk => hk) trivial (by decide) (by decide) (Below.refl _ _) (Nat.le_refl _) ?_; intro v1 w2 ho2 hb2 hg_ hnew_; clear hg_ hnew_; have R2 := Aside0.mk (Kd.R_lower ho2 (Nat.le_refl _)); have B2 := Aside0.mk hb2; clear ho2 hb2))
  have hl : (List.replicate (Int.toNat 2) (0 : Int)) = [0, 0] := rfl
  have R3 := Aside0.mk (hl ▸ R2.out)
  have B3 := Aside0.mk (below_step (by repeat (first | exact Below.refl _ _ | apply pw_below_drewN)) B2.out : Below w.heap.size w w2)
  have C3 := Aside0.mk (Kd.C_below HC.out B3.out)
  clear hl R2 B2 HC
  go_upto_region 8 with (first
    | ((with_reducible refine gate_builtin (b := .copy) (xs := #[.tmp 31, .tmp 32]) rfl ?_); refine Kd.R_copy (enc := Value.int .i64) (0 : Int) (w0 := w) w.heap.size rfl (.tmp 31) (.tmp 32) 24 24 3 rfl Tryd.underlying24 (by kernel_rfl) v1 [0, 0] [481] A 1 c (fun _ => True) rfl rfl R3.out C3.out B3.out B3.out.size ?_; intro w4 ho hb hg; have R4 := Aside0.mk ho; have B4 := Aside0.mk hb; clear ho hb hg))
  have R5 := Aside0.mk (show Kd.R (Kd.int .i64) 3 w4 w.heap.size (fun _ => True) v1 [481, 0] from R4.out)
  clear R4 R3 C3 B3
  obtain ⟨g, cap, rfl, hcap, hg, hcell, hfr⟩ := own_head R5.out 2 rfl (by simp)
  have hc0 : w4.cell? ⟨g, 0, none⟩ = some (.int .i64 481) := (Kd.R_cell (0 : Int) R5.out 0 (by decide) (by decide)).1
  have hrun : Aside0 (∀ c1 c2, (Builtin.copy_ #[24, 24] 3 #[.slice (some ⟨g, 1, none⟩) 1 c1, .slice (some ⟨g, 0, none⟩) 1 c2]).run Tryd.prog w4.drew = .ok (.int .i64 1) (w4.drew.setCell ⟨g, 1, none⟩ (.int .i64 481))) := ⟨fun c1 c2 => by
    have h := run_copy_cells (P := Tryd.prog) w4.drew 24 24 3 3 g 1 1 c1 ⟨g, 0, none⟩ 1 c2 [.int .i64 481] Tryd.underlying24 (by kernel_rfl) rfl
      (fun j v hj => by rcases j with _ | j; · simp at hj; subst hj; exact hc0
                        · simp at hj) (fun j hj => by have : j = 0 := by simpa using hj
                                                      subst this; exact hcell 1 (by omega)) (fun j hj => hfr _) (by intro v hv; simp at hv; subst hv; rfl)
    simpa [World.setCells, goInt] using h⟩
  go_loopg [8] 1 (fun gk v8 w' => (v8 = .int .i64 1 ∧ Aside0 (gk = 1) ∧ w' = w4) ∨ (v8 = .int .i64 2 ∧ Aside0 (gk = 0) ∧ w' = w4.drew.setCell ⟨g, 1, none⟩ (.int .i64 481)))
  case atStart => exact .inl ⟨rfl, ⟨rfl⟩, rfl⟩
  case round =>
    obtain ⟨rfl, HK, rfl⟩ | ⟨rfl, HK, rfl⟩ := hrel
    · rename_i J0 K0 hK0 hJ0
      have hne : ¬ cap = 1 := by omega
      have hle : (1 : Int) ≤ (cap : Int) := by omega
      go_wp2
      go_region_law (first
        | (refine copy_step wr.drew (wr.drew.setCell ⟨g, 1, none⟩ (.int .i64 481)) (by rfl) (.tmp 41) (.tmp 44) 24 rfl (some ⟨g, 1, none⟩) (some ⟨g, 0, none⟩) 1 (cap - 1) 1 cap (by go_simp) (by go_simp) (.int .i64 1) (hrun.out _ _) ?_))
      all_goals simp only [Exit.inBlock, Exit.then]
      all_goals refine hK0 _ _ ?_
      all_goals go_roundg 0
      all_goals first
        | (have := HK.out; omega)
        | exact .inr ⟨by rfl, ⟨rfl⟩, rfl⟩
        | trace_state
    · go_wp2
      go_ret
      refine ⟨_, rfl, ?_, ?_⟩
      · exact (Kd.R_put (Kd.R_drewN R5.out 1) 1 481).1
      · exact pw_below_drewN (Below.setCell (p := ⟨g, 1, none⟩) B4.out hg _) 1
def slices_Repeat_int_int.f (l : List Int) (c : Int) : Option (List Int) := if l = [481] ∧ c = 2 then some [481, 481] else none
theorem slices_Repeat_int_int.calls (A0 : Option Addr) (c0 : Nat) (l0 : List Int) (a1 : Int) (r : List Int) (w : World) (hr0 : Kd.C (Kd.int .i64) w A0 l0.length l0) (hc0 : l0.length ≤ c0) (h : slices_Repeat_int_int.f l0 a1 = some r) :
    Calls Tryd.prog 62 #[.slice A0 l0.length c0, .int .i64 a1] w fun e w' => ∃ v0_ : Value, e = .returned (v0_) ∧ Kd.R (Kd.int .i64) 3 w' w.heap.size (fun _ => True) v0_ r ∧ Below w.heap.size w w' := by
  unfold slices_Repeat_int_int.f at h
  split at h
  · rename_i hh
    obtain ⟨rfl, rfl⟩ := hh
    cases h
    exact repeat_two A0 c0 w hr0 hc0
  · cases h
end Go.Proofs.YtfbibheeogcacaaDoor.B
