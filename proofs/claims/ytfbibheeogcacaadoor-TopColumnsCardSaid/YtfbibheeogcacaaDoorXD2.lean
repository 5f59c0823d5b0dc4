/- Chain of 3 tubes and sign 6. -/
import Derived.Test.YtfbibheeogcacaaDoorXD1
import Derived.Test.YtfbibheeogcacaaDoorXC8
namespace Go.Proofs.YtfbibheeogcacaaDoor.B
open Go.RowKit Go.Proofs.YtfbibheeogcacaaDoorW.PrintWords Go.Proofs.YtfbibheeogcacaaDoorW.PrintLast Go.Proofs.YtfbibheeogcacaaDoorW.PrintMore
set_option linter.unusedVariables false
set_option linter.unusedSimpArgs false
theorem C_zero (A : Option Addr) (w : World) : Kd.C (Kd.int .i64) w A ([] : List Int).length [] := ⟨rfl, by simp, fun h => absurd h (Nat.lt_irrefl 0)⟩
theorem r_slice1 {w : World} {base : Nat} {ok : Nat → Prop} {v : Value} {xs : List Int} (h : Kd.R (Kd.int .i64) 3 w base ok v xs) (hn : 0 < xs.length) : ∃ (ad : Addr) (c : Nat), v = .slice (some ad) xs.length c := by
  obtain ⟨A, c, rfl, hc, hC⟩ := Kd.R_reads h
  obtain ⟨ad, e, _⟩ := Kd.at_int hC 0 (by omega) (by omega)
  exact ⟨ad, c, by rw [e]⟩
/-- Where chain stands behind i tubes. -/
def chS (w W : World) (i : Nat) (v5 v6 v7 : Value) : Prop :=
  (i = 0 ∧ v5 = .slice none 0 0 ∧ v6 = .slice none 0 0 ∧ v7 = .int .i64 0) ∨
  (i = 1 ∧ Kd.R (Kd.int .i64) 3 W w.heap.size (fun _ => True) v5 [0] ∧ v6 = .slice none 0 0 ∧ v7 = .int .i64 0) ∨
  (i = 2 ∧ (∃ A c, v5 = .slice A 0 c) ∧ v6 = .slice none 0 0 ∧ v7 = .int .i64 2) ∨
  (i = 3 ∧ (∃ A c, v5 = .slice A 0 c) ∧ Kd.R (Kd.int .i64) 3 W w.heap.size (fun _ => True) v6 [2] ∧ v7 = .int .i64 2)
set_option maxHeartbeats 4000000 in
set_option maxRecDepth 100000 in
theorem chain_six (w : World) : Calls Tryd.prog 36 #[.int .i64 3, .int .i64 6] w fun e w' => ∃ v : Value, e = .returned v ∧ Kd.R (Kd.int .i64) 3 w' w.heap.size (fun _ => True) v [2, 6] ∧ Below w.heap.size w w' := by
  have q0 : Go.bits .and .i64 6 1 = 0 := by decide +kernel
  have q1 : Go.bits .and .i64 6 2 = 2 := by decide +kernel
  have q2 : Go.bits .and .i64 6 4 = 4 := by decide +kernel
  have q3 : Go.bits .or .i64 0 2 = 2 := by decide +kernel
  have q4 : Go.bits .or .i64 2 4 = 6 := by decide +kernel
  have HB0 := Aside0.mk (Below.refl w.heap.size w)
  go_enter Tryd.func36, Tryd.ntmps36
  go_wp2
  go_loopg [5, 6, 7, 13] 3 (fun gk v5 v6 v7 v13 w' => ∃ i : Nat, v13 = .int .i64 (i : Int) ∧ i ≤ 3 ∧ Aside0 (gk = 3 - i) ∧ Aside0 (chS w w' i v5 v6 v7) ∧ Aside0 (Below w.heap.size w w'))
  case atStart => exact ⟨0, rfl, by omega, ⟨rfl⟩, ⟨.inl ⟨rfl, rfl, rfl, rfl⟩⟩, HB0⟩
  case round =>
    clear HB0
    obtain ⟨i, rfl, hi, HK, HS, HB⟩ := hrel
    rcases HS.out with ⟨rfl, rfl, rfl, rfl⟩ | ⟨rfl, r5, rfl, rfl⟩ | ⟨rfl, ⟨A5, c5, rfl⟩, rfl, rfl⟩ | ⟨rfl, ⟨A5, c5, rfl⟩, r6, rfl⟩
    · clear HS
      go_wp2_with (first
        | ((with_reducible refine gate_builtin (b := .append) (xs := #[.tmp 26, .tmp 28]) rfl ?_); at_builtin; refine Kd.R_append (Kd.int .i64) (w0 := w) w.heap.size rfl (.tmp 26) (.tmp 28) 24 3 (.int .i64 0) 8 rfl Tryd.underlying24 info3 rfl (by decide) (by omega) (.slice none 0 0) ([] : List Int) (0 : Int) [.int .i64 (0 : Int)] (fun _ => True) (fun _ => False) rfl rfl ?aP (fun _ hk => hk.elim) ?aF ?aO ?aB ?aS ?aL ?_; (case aP => exact rfl); (case aF => exact (fun k hk => trivial)); (case aO => exact Kd.R_nil _ _ _ _ _); (case aB => exact HB.out); (case aS => exact HB.out.size); (case aL => decide); intro v1 w4 ho hb hg hat; have R1 := Aside0.mk ho; have B1 := Aside0.mk hb; clear ho hb hg hat))
      go_roundg 2
      case measure => have := HK.out; omega
      case rel => exact ⟨1, rfl, by omega, ⟨rfl⟩, ⟨.inr (.inl ⟨rfl, R1.out, rfl, rfl⟩)⟩, B1⟩
    · obtain ⟨ad, c, rfl⟩ := r_slice1 r5 (by simp)
      clear HS r5
      go_wp2
      go_roundg 1
      case measure => have := HK.out; omega
      case rel => exact ⟨2, rfl, by omega, ⟨rfl⟩, ⟨.inr (.inr (.inl ⟨rfl, ⟨_, _, rfl⟩, rfl, rfl⟩))⟩, HB⟩
    · clear HS
      go_wp2_with (first
        | ((with_reducible refine gate_builtin (b := .append) (xs := #[.tmp 16, .tmp 18]) rfl ?_); at_builtin; refine Kd.R_append (Kd.int .i64) (w0 := w) w.heap.size rfl (.tmp 16) (.tmp 18) 24 3 (.int .i64 0) 8 rfl Tryd.underlying24 info3 rfl (by decide) (by omega) (.slice none 0 0) ([] : List Int) (2 : Int) [.int .i64 (2 : Int)] (fun _ => True) (fun _ => False) rfl rfl ?aP (fun _ hk => hk.elim) ?aF ?aO ?aB ?aS ?aL ?_; (case aP => exact rfl); (case aF => exact (fun k hk => trivial)); (case aO => exact Kd.R_nil _ _ _ _ _); (case aB => exact HB.out); (case aS => exact HB.out.size); (case aL => decide); intro v1 w4 ho hb hg hat; have R1 := Aside0.mk ho; have B1 := Aside0.mk hb; clear ho hb hg hat))
      go_roundg 0
      case measure => have := HK.out; omega
      case rel => exact ⟨3, rfl, by omega, ⟨rfl⟩, ⟨.inr (.inr (.inr ⟨rfl, ⟨_, _, rfl⟩, R1.out, rfl⟩))⟩, B1⟩
    · obtain ⟨ad6, c6, rfl⟩ := r_slice1 r6 (by simp)
      have R6 := Aside0.mk r6
      clear HS r6
      go_upto_region 14 with (first
        | ((with_reducible refine gate_builtin (b := .append) (xs := #[.tmp 44, .tmp 45]) rfl ?_); at_builtin; refine Kd.R_append_row (Value.int .i64) (0 : Int) (w0 := w) w.heap.size rfl (.tmp 44) (.tmp 45) 24 3 (.int .i64 0) 8 rfl Tryd.underlying24 info3 rfl (by omega) (.slice (some ad6) 1 c6) [(2 : Int)] [] A5 0 c5 (fun _ => True) rfl rfl (fun _ _ => trivial) R6.out (C_zero A5 _) HB.out HB.out.size (by simp) ?_; intro v1 w4 ho hb hg hat; have R7 := Aside0.mk ho; have B7 := Aside0.mk hb; clear ho hb hg hat))
      obtain ⟨ad7, c7, rfl⟩ := r_slice1 R7.out (by simp)
      have HC45 := Aside0.mk (sort45_one ad7 c7 2 (fun _ => True) w w4 B7.out R7.out)
      clear R7 B7 R6 HB HK
      go_upto_region 15 with (first | (go_at_call 45; refine HC45.out.mono ?_; rintro e w5 ⟨rfl, r8, b8⟩; have C8 := Aside0.mk (Kd.R_reads' r8).2.2; have B8 := Aside0.mk b8; clear r8 b8))
      go_wp2_with (first
        | ((with_reducible refine gate_dst (N := 50) rfl ?_); refine Kd.R_lit (Kd.int .i64) _ 3 ?hg (N := 50) ?hd (xs := ([2] : List Int)) (inner := [.int .i64 2]) (ok := fun _ => True) (okp := fun _ => True) ?hr ?hp (fun _ hk => hk) trivial (Below.refl _ _) (Nat.le_refl _) (by simp) ?_; (case hd => rfl); (case hg => rfl); (case hr => first | (go_simp; done) | (go_simp; rfl)); (case hp => exact (Reps.one (show Kd.M (Kd.int .i64) _ _ _ (2 : Int) [.int .i64 2] from rfl) (Reps.none _ _))); intro v50 w6 ho2 hb2 hg2 hn2; clear hg2 hn2; have R9 := Aside0.mk (Kd.R_lower ho2 B8.out.size); have C9 := Aside0.mk (Kd.C_below C8.out hb2); have B9 := Aside0.mk (below_step B8.out hb2); clear ho2 hb2))
      clear C8 B8 HC45
      go_loopg [7, 9, 53] 1 (fun gk v7 v9 v53 w' => ∃ j : Nat, v53 = .int .i64 (j : Int) ∧ Aside0 (gk = 1 - j) ∧ Aside0 ((j = 0 ∧ v7 = .int .i64 2 ∧ Kd.R (Kd.int .i64) 3 w' w.heap.size (fun _ => True) v9 [2] ∧ Kd.C (Kd.int .i64) w' (some ad7) 1 [2]) ∨ (j = 1 ∧ Kd.R (Kd.int .i64) 3 w' w.heap.size (fun _ => True) v9 [2, 6])) ∧ Aside0 (Below w.heap.size w w'))
      case atStart => exact ⟨0, rfl, ⟨rfl⟩, ⟨.inl ⟨rfl, rfl, R9.out, C9.out⟩⟩, B9⟩
      case round =>
        clear R9 C9 B9
        obtain ⟨j, rfl, HK, HS, HB⟩ := hrel
        rcases HS.out with ⟨rfl, rfl, r9, c9⟩ | ⟨rfl, r9⟩
        · have R9 := Aside0.mk r9
          obtain ⟨ad, e0, hx⟩ := Kd.at_int c9 0 (by simp) (by simp)
          cases e0
          replace hx : wr.cell? (ad7.add 0) = some (.int .i64 2) := hx
          have hx1 : wr.cell? ad7 = some (.int .i64 2) := hx
          clear r9 c9 HS
          go_wp2_with (first
            | ((with_reducible refine gate_builtin (b := .append) (xs := #[.tmp 61, .tmp 63]) rfl ?_); at_builtin; refine Kd.R_append (Kd.int .i64) (w0 := w) w.heap.size rfl (.tmp 61) (.tmp 63) 24 3 (.int .i64 0) 8 rfl Tryd.underlying24 info3 rfl (by decide) (by omega) u9 ([2] : List Int) (6 : Int) [.int .i64 (6 : Int)] (fun _ => True) (fun _ => False) rfl rfl ?aP (fun _ hk => hk.elim) ?aF ?aO ?aB ?aS ?aL ?_; (case aP => exact rfl); (case aF => exact (fun k hk => trivial)); (case aO => exact R9.out); (case aB => exact HB.out); (case aS => exact HB.out.size); (case aL => decide); intro v1 w4 ho hb hg hat; have R1 := Aside0.mk ho; have B1 := Aside0.mk hb; clear ho hb hg hat))
          go_roundg 0
          case measure => have := HK.out; omega
          case rel => exact ⟨1, rfl, ⟨rfl⟩, ⟨.inr ⟨rfl, R1.out⟩⟩, B1⟩
        · have R9 := Aside0.mk r9
          clear r9 HS
          go_wp2
          go_ret
          exact ⟨_, rfl, R9.out, HB.out⟩
set_option maxHeartbeats 800000 in
set_option maxRecDepth 100000 in
theorem Chain_six (w : World) : Calls Tryd.prog 20 #[.int .i64 3, .int .i64 6] w fun e w' => ∃ v : Value, e = .returned (.tuple #[v, .int .i64 0]) ∧ Kd.R (Kd.int .i64) 3 w' w.heap.size (fun _ => True) v [2, 6] ∧ Below w.heap.size w w' := by
  go_enter Tryd.func20, Tryd.ntmps20
  go_wp2_with (first
    | (go_at_call 29; refine (code_sized.calls 3 true _ (by decide)).mono ?_; rintro e w1 ⟨rfl, ⟨nd, rfl⟩⟩)
    | (go_at_call 30; refine (code_sign.calls 3 6 true _ (by decide +kernel)).mono ?_; rintro e w2 ⟨rfl, ⟨nd2, rfl⟩⟩)
    | (go_at_call 36; refine (chain_six _).mono ?_; rintro e w3 ⟨v3, rfl, r3, b3⟩; obtain ⟨A3, c3, rfl⟩ := Kd.R_slice r3; have R3 := Aside0.mk r3; have B3 := Aside0.mk b3; clear r3 b3))
  go_ret2
  exact ⟨_, rfl, Kd.R_lower R3.out (by simp [World.drewN]), (by
    have := B3.out
    exact below_step (by repeat (first | exact Below.refl _ _ | apply pw_below_drewN)) this)⟩
end Go.Proofs.YtfbibheeogcacaaDoor.B
