/- Written by a program (lite.py) from my texts. -/
import Derived.Test.YtbanemecfobonaaDoorBCw
import Derived.Deep.RegionHeld3
import Derived.StillTailTactics
namespace Go.Proofs.YtbanemecfobonaaDoor.B
open Go.RowKit Go.Proofs.YtbanemecfobonaaDoorW.PrintWords Go.Proofs.YtbanemecfobonaaDoorW.PrintLast Go.Proofs.YtbanemecfobonaaDoorW.PrintMore
attribute [local go_sem] max2_int min2_int max_two min_two max_three min_three max_four min_four
set_option linter.unusedVariables false
set_option linter.unusedSimpArgs false
def big_plus.l0 : Nat → List Int → List Int → List Int → Int → Int → Int → Option (List Int)
  | 0, _, _, _, _, _, _ => none
  | k + 1, x0, x1, x5, x6, x20, x21 => if x21 < x20 then (if 0 ≤ x21 then (if x21 < (x0.length : Int) then (if x21 < (x1.length : Int) then (if x21 < (x5.length : Int) then (big_plus.l0 k x0 x1 (x5.set (x21 : Int).toNat ((IntKind.u64.wrap ((IntKind.u64.wrap (x6 + (IntKind.u64.wrap (rd x0 x21)))) + (IntKind.u64.wrap (rd x1 x21)))) % 4294967296)) ((IntKind.u64.wrap ((IntKind.u64.wrap (x6 + (IntKind.u64.wrap (rd x0 x21)))) + (IntKind.u64.wrap (rd x1 x21)))) / 4294967296) x20 (wrap64 (x21 + 1))) else (none)) else (if x21 < (x5.length : Int) then (big_plus.l0 k x0 x1 (x5.set (x21 : Int).toNat ((IntKind.u64.wrap (x6 + (IntKind.u64.wrap (rd x0 x21)))) % 4294967296)) ((IntKind.u64.wrap (x6 + (IntKind.u64.wrap (rd x0 x21)))) / 4294967296) x20 (wrap64 (x21 + 1))) else (none))) else (none)) else (none)) else (if 0 ≤ (x0.length : Int) then (if (x0.length : Int) < (x5.length : Int) then ((big_trim.f k (x5.set ((x0.length : Int) : Int).toNat ((x6) % 4294967296))).bind fun t116 => (some t116)) else (none)) else (none))
def big_plus.f (k : Nat) (l0 : List Int) (l1 : List Int) : Option (List Int) := if 0 ≤ (wrap64 ((l0.length : Int) + 1)) then (if (wrap64 ((l0.length : Int) + 1) : Int).toNat ≤ 70368744177664 then (big_plus.l0 k l0 l1 (List.replicate (wrap64 ((l0.length : Int) + 1) : Int).toNat 0) 0 (l0.length : Int) 0) else (none)) else (none)
set_option maxHeartbeats 8000000 in
set_option maxRecDepth 100000 in
theorem big_plus.calls0 (k : Nat) (A0 : Option Addr) (c0 : Nat) (l0 : List Int) (A1 : Option Addr) (c1 : Nat) (l1 : List Int) (r : List Int) (w : World) (hr0 : Kd.C (Kd.int .u32) w A0 l0.length l0) (hc0 : l0.length ≤ c0) (hr1 : Kd.C (Kd.int .u32) w A1 l1.length l1) (hc1 : l1.length ≤ c1) (hsw : decide ((l0.length : Int) < (l1.length : Int)) = false) (hsw2 : decide (l0.length < l1.length) = false) (h : big_plus.f k l0 l1 = some r) :
    Calls Tryd.prog 133 #[.slice A0 l0.length c0, .slice A1 l1.length c1] w fun e w' => ∃ v0_ : Value, e = .returned (v0_) ∧ Kd.R (Kd.int .u32) 149 w' w.heap.size (fun _ => True) v0_ r ∧ Below w.heap.size w w' := by
  have HR0 := aM hr0; have HC0 := aM hc0; clear hr0 hc0; have HR1 := aM hr1; have HC1 := aM hc1; clear hr1 hc1; (have HB := aM (Below.refl w.heap.size w)); (have H : (if 0 ≤ (wrap64 ((l0.length : Int) + 1)) then (if (wrap64 ((l0.length : Int) + 1) : Int).toNat ≤ 70368744177664 then (big_plus.l0 k l0 l1 (List.replicate (wrap64 ((l0.length : Int) + 1) : Int).toNat 0) 0 (l0.length : Int) 0) else (none)) else (none)) = some r := h); clear h; (obtain ⟨ji3, hji3⟩ : ∃ j_ : Int, (wrap64 ((l0.length : Int) + 1)) = j_ := ⟨_, rfl⟩); (replace H : (if 0 ≤ (ji3) then (if (ji3 : Int).toNat ≤ 70368744177664 then (big_plus.l0 k l0 l1 (List.replicate (ji3 : Int).toNat 0) 0 (l0.length : Int) 0) else (none)) else (none)) = some r := by first | (rw [hji3] at H; exact H) | (simp only [hji3] at H ⊢; exact H)); (have hji3w : (IntKind.i64.wrap ((l0.length : Int) + 1)) = ji3 := (i64_w _).trans hji3); by_cases c4 : 0 ≤ (ji3); rotate_left
  · rw [if_neg c4] at H; (exact absurd H (by simp))
  rw [if_pos c4] at H; (have c4b0 := eq_true c4); (have c4b1 : decide (0 ≤ (ji3)) = true := dT c4); clear c4; by_cases c5 : (ji3 : Int).toNat ≤ 70368744177664; rotate_left
  · rw [if_neg c5] at H; (exact absurd H (by simp))
  rw [if_pos c5] at H; (have c5b0 := eq_true c5); (have c5b1 : decide ((ji3 : Int).toNat ≤ 70368744177664) = true := dT c5); clear c5; (obtain ⟨y108, hy108⟩ : ∃ y_ : List Int, y_ = (List.replicate (ji3 : Int).toNat 0) := ⟨_, rfl⟩); (replace H : (big_plus.l0 k l0 l1 y108 0 (l0.length : Int) 0) = some r := by first | (rw [hy108]; with_reducible exact H) | (have H2_ := (Option.bind_some _ _).symm.trans H; rw [hy108]; with_reducible exact H2_) | (have H2_ := (Option.bind_some _ _).symm.trans H; with_reducible exact H2_) | with_reducible exact H | (rw [hy108]; exact H) | exact H); have Ny108 := aM hy108; clear hy108; have H' := aM H; clear H; (go_enter Tryd.func133, Tryd.ntmps133); (go_wp2_with (first | ((with_reducible refine gate_dst (N := 18) rfl ?_); refine Kd.R_make (Kd.int .u32) _ 149 rfl (N := 18) rfl 119 _ _ rfl ji3 rfl rfl Tryd.underlying119 (.int .u32 0) 4 info149 rfl z10 z3 0 (ok := fun _ => True) (okp := fun _ => True) rfl (fun _ hk => hk) trivial (oD z2) (Nat.le_trans (Nat.mul_le_mul_right _ (oD z2 : ji3.toNat ≤ 70368744177664)) z3) (Below.refl _ _) (Nat.le_refl _) ?_; intro v109 w6 ho7 hb hg_ hnew_; clear hg_ hnew_; (first | rw [← Ny108.out] at ho7 | (simp only [Int.reduceToNat] at ho7; rw [← Ny108.out] at ho7)); have HO110 := aM (Kd.R_lower ho7 (below_size bel0)); replace HB := aM (below_step bel0 hb); clear hb ho7)))
  (go_loopg [6, 21] k (fun kq v6 v21 w' => ∃ (x5_1 : List Int) (x6_1 : Int) (x21_1 : Int), v6 = .int .u64 x6_1 ∧ v21 = .int .i64 x21_1 ∧ Aside0 (big_plus.l0 kq l0 l1 x5_1 x6_1 (l0.length : Int) x21_1 = some r) ∧ Aside0 (kq ≤ k) ∧ Aside0 (Kd.R (Kd.int .u32) 149 w' w.heap.size (fun _ => True) v109 x5_1) ∧ Aside0 (Below w.heap.size w w'))); (case atStart => exact ⟨(y108), (0), (0), z4, z4, H', ⟨Nat.le_refl _⟩, ⟨by (with_reducible repeat (first | apply Kd.R_alloc | apply Kd.R_drewN | apply Kd.R_drew)); exact HO110.out⟩, ⟨bel0⟩⟩)
  case round =>
   clear H'; (try clear c1); (try clear p2); (try clear c4); (try clear c4b0); (try clear c4b1); (try clear c5); (try clear c5b0); (try clear c5b1); (try clear p6); obtain ⟨x5_1, x6_1, x21_1, rfl, rfl, HA, HK1, HO_5, HB⟩ := hrel
   cases gk with
   | zero => exact absurd HA.out (by simp [big_plus.l0])
   | succ k1 =>
    have H := HA.out; clear HA; simp only [big_plus.l0] at H; by_cases c8 : x21_1 < (l0.length : Int); rotate_left
    · rw [if_neg c8] at H; (have c8b0 : decide (x21_1 < (l0.length : Int)) = false := dF c8); clear c8; by_cases c20 : 0 ≤ (l0.length : Int); rotate_left
      · rw [if_neg c20] at H; (exact absurd H (by simp))
      rw [if_pos c20] at H; (have c20b0 : decide (0 ≤ (l0.length : Int)) = true := dT c20); (have c20b1 : decide (0 ≤ l0.length) = true := dT z3); clear c20; by_cases c21 : (l0.length : Int) < (x5_1.length : Int); rotate_left
      · rw [if_neg c21] at H; (exact absurd H (by simp))
      rw [if_pos c21] at H; (have c21b0 : decide ((l0.length : Int) < (x5_1.length : Int)) = true := dT c21); (have c21b1 : decide (l0.length < x5_1.length) = true := dT (Int.ofNat_lt.mp c21)); clear c21; (obtain ⟨y115, hy115⟩ : ∃ y_ : List Int, y_ = (x5_1.set ((l0.length : Int) : Int).toNat ((x6_1) % 4294967296)) := ⟨_, rfl⟩); (replace H : ((big_trim.f k1 y115).bind fun t116 => (some t116)) = some r := by first | (rw [hy115]; with_reducible exact H) | (have H2_ := (Option.bind_some _ _).symm.trans H; rw [hy115]; with_reducible exact H2_) | (have H2_ := (Option.bind_some _ _).symm.trans H; with_reducible exact H2_) | with_reducible exact H | (rw [hy115]; exact H) | exact H); have Ny115 := aM hy115; clear hy115; (replace H := oB H); obtain ⟨t116, A230, H⟩ := H; (replace H : (some t116) = some r := H); have A23 := aM A230; clear A230; (obtain rfl := sI H); (have p22 : 0 ≤ ((l0.length : Int) : Int) := oD z2); (have q22 : ((l0.length : Int) : Int) < ((x5_1.length : Int) : Int) := oD z2); (obtain ⟨go22, co22, eo22, gb22, gl22, cl22, HG22⟩ := Kd.R_form HO_5.out z3); ((first | cases eo22 | (injection eo22 with ea_ en_ ec_; (first | subst ea_ | (injection ea_ with ea_; subst ea_)); subst ec_; clear en_))); have GB22 := aM gb22; have GG22 := aM HG22; clear gb22 gl22 HG22; (obtain ⟨hx22_0, hf22_0⟩ := Kd.R_celln 0 HO_5.out ((l0.length : Int) : Int) p22 q22)
      (replace p22 := eq_true p22); (replace q22 := eq_true q22); (have hx22_1 : wr.cell? ⟨go22, l0.length, none⟩ = _ := hx22_0); (have hf22_1 : wr.frozen? ⟨go22, l0.length, none⟩ = _ := hf22_0); clear hx22_0 hf22_0; (have HP24 := Kd.R_putg HO_5.out ((l0.length : Int) : Int) ((x6_1) % 4294967296)); (go_wp2_with (first | ((with_reducible refine gate_store (t := 149) (p := 55) rfl ?_); refine store_event (t := 149) (p := 55) (v := ?vo_w25) (w1 := (wr.setCell ⟨go22, l0.length, none⟩ (.int .u32 ((x6_1) % 4294967296)))) ?hg ?ho ?hn ?hr ?_; (case ho => rfl); (case hg => rfl); (case hn => rfl); (case hr => first | (go_simp; done) | (go_simp; rfl)); intro w25 hw; have hg : wr.grownBy w25 (some go22) := (by rw [hw]; exact HP24.2); have hp_ : Kd.R (Kd.int .u32) 149 w25 w.heap.size (fun _ => True) (.slice (some ⟨go22, 0, none⟩) x5_1.length co22) y115 := (by rw [hw, Ny115.out]; exact HP24.1); clear HP24; replace HO_5 := aM (hp_); replace HB := aM ((by rw [hw]; exact below_set (HB.out) GB22.out : Below w.heap.size w w25)); clear hg hw hp_) | ((with_reducible refine gate_callee (f := 123) rfl ?_); refine goesL_ (some 57) rfl rfl Tryd.func123 z9 rfl #[.slice (some ⟨go22, 0, none⟩) x5_1.length co22] rfl z1 ?_; (with_reducible refine (big_trim.calls k1 (fun k_ => some k_ = (.slice (some ⟨go22, 0, none⟩) x5_1.length co22 : Value).ownBlock) (.slice (some ⟨go22, 0, none⟩) x5_1.length co22) y115 t116 w _ ?side1 ?side2 A23.out).mono ?_); (case side1 => repeat (first | (with_reducible first | exact HB.out | apply below_alloc | apply pw_below_drewN | apply below_drew1) | exact HB.out)); (case side2 => exact Kd.R_tight rfl HO_5.out); rintro e w26 ⟨v117, rfl, ho0, hb, hkp⟩; refine ⟨_, rfl, ?_⟩; have HO118 := aM (Kd.R_mono (ok' := fun k_ => True) ho0 (fun k_ hk_ => trivial)); replace HB := aM (hb); clear HO_5; (try clear hb); (try clear hkp); (try clear ho0))))
      go_ret; (exact ⟨_, by first | rfl | (simp [errW_none, errW_some] <;> rfl) | (simp only [← hji3]; first | rfl | (simp [errW_none, errW_some] <;> rfl)) | (simp [*, errW_none, errW_some] <;> rfl), rA HO118.out, bel0⟩)
    rw [if_pos c8] at H; (have c8b0 : decide (x21_1 < (l0.length : Int)) = true := dT c8); clear c8; by_cases c9 : 0 ≤ x21_1; rotate_left
    · rw [if_neg c9] at H; (exact absurd H (by simp))
    rw [if_pos c9] at H; (have c9b0 : decide (0 ≤ x21_1) = true := dT c9); clear c9; by_cases c10 : x21_1 < (l0.length : Int); rotate_left
    · rw [if_neg c10] at H; (exact absurd H (by simp))
    rw [if_pos c10] at H; (have c10b0 : decide (x21_1 < (l0.length : Int)) = true := dT c10); clear c10; by_cases c11 : x21_1 < (l1.length : Int); rotate_left
    · rw [if_neg c11] at H; (have c11b0 : decide (x21_1 < (l1.length : Int)) = false := dF c11); clear c11; by_cases c16 : x21_1 < (x5_1.length : Int); rotate_left
      · rw [if_neg c16] at H; (exact absurd H (by simp))
      rw [if_pos c16] at H; (have c16b0 : decide (x21_1 < (x5_1.length : Int)) = true := dT c16); clear c16; (obtain ⟨y114, hy114⟩ : ∃ y_ : List Int, y_ = (x5_1.set (x21_1 : Int).toNat ((IntKind.u64.wrap (x6_1 + (IntKind.u64.wrap (rd l0 x21_1)))) % 4294967296)) := ⟨_, rfl⟩); (replace H : (big_plus.l0 k1 l0 l1 y114 ((IntKind.u64.wrap (x6_1 + (IntKind.u64.wrap (rd l0 x21_1)))) / 4294967296) (l0.length : Int) (wrap64 (x21_1 + 1))) = some r := by first | (rw [hy114]; with_reducible exact H) | (have H2_ := (Option.bind_some _ _).symm.trans H; rw [hy114]; with_reducible exact H2_) | (have H2_ := (Option.bind_some _ _).symm.trans H; with_reducible exact H2_) | with_reducible exact H | (rw [hy114]; exact H) | exact H); have Ny114 := aM hy114; clear hy114; have H' := aM H; clear H; (have p111 : 0 ≤ (x21_1 : Int) := oD z2); (have q111 : x21_1 < (l0.length : Int) := oD z2); (obtain ⟨ad111, e111, hx111_0⟩ := Kd.at_int HR0.out x21_1 p111 q111); cases e111; (replace hx111_0 := kpc HB.out hx111_0); (replace p111 := eq_true p111); (replace q111 := eq_true q111); (have p17 : 0 ≤ (x21_1 : Int) := oD z2); (have q17 : (x21_1 : Int) < ((x5_1.length : Int) : Int) := oD z2); (obtain ⟨go17, co17, eo17, gb17, gl17, cl17, HG17⟩ := Kd.R_form HO_5.out z3)
      ((first | cases eo17 | (injection eo17 with ea_ en_ ec_; (first | subst ea_ | (injection ea_ with ea_; subst ea_)); subst ec_; clear en_))); have GB17 := aM gb17; have GG17 := aM HG17; clear gb17 gl17 HG17; (obtain ⟨hx17_0, hf17_0⟩ := Kd.R_celln 0 HO_5.out (x21_1 : Int) p17 q17); (replace p17 := eq_true p17); (replace q17 := eq_true q17); (have HP18 := Kd.R_putg HO_5.out (x21_1 : Int) ((IntKind.u64.wrap (x6_1 + (IntKind.u64.wrap (rd l0 x21_1)))) % 4294967296)); (go_wp2_with (first | ((with_reducible refine gate_store (t := 149) (p := 46) rfl ?_); refine store_event (t := 149) (p := 46) (v := ?vo_w19) (w1 := (wr.setCell ⟨go17, (x21_1 : Int).toNat, none⟩ (.int .u32 ((IntKind.u64.wrap (x6_1 + (IntKind.u64.wrap (rd l0 x21_1)))) % 4294967296)))) ?hg ?ho ?hn ?hr ?_; (case ho => rfl); (case hg => rfl); (case hn => rfl); (case hr => first | (go_simp; done) | (go_simp; rfl)); intro w19 hw; have hg : wr.grownBy w19 (some go17) := (by rw [hw]; exact HP18.2); have hp_ : Kd.R (Kd.int .u32) 149 w19 w.heap.size (fun _ => True) (.slice (some ⟨go17, 0, none⟩) x5_1.length co17) y114 := (by rw [hw, Ny114.out]; exact HP18.1); clear HP18; replace HO_5 := aM (hp_); replace HB := aM ((by rw [hw]; exact below_set (HB.out) GB17.out : Below w.heap.size w w19)); clear hg hw hp_))); (go_roundg k1); (case measure => have := HK1.out; omega); (case rel => exact ⟨(y114), ((IntKind.u64.wrap (x6_1 + (IntKind.u64.wrap (rd l0 x21_1)))) / 4294967296), (wrap64 (x21_1 + 1)), z4, z4, H', ⟨by have := HK1.out; omega⟩, ⟨by (with_reducible repeat (first | apply Kd.R_alloc | apply Kd.R_drewN | apply Kd.R_drew)); exact HO_5.out⟩, ⟨bel0⟩⟩)
    rw [if_pos c11] at H; (have c11b0 : decide (x21_1 < (l1.length : Int)) = true := dT c11); clear c11; by_cases c12 : x21_1 < (x5_1.length : Int); rotate_left
    · rw [if_neg c12] at H; (exact absurd H (by simp))
    rw [if_pos c12] at H; (have c12b0 : decide (x21_1 < (x5_1.length : Int)) = true := dT c12); clear c12; (obtain ⟨y113, hy113⟩ : ∃ y_ : List Int, y_ = (x5_1.set (x21_1 : Int).toNat ((IntKind.u64.wrap ((IntKind.u64.wrap (x6_1 + (IntKind.u64.wrap (rd l0 x21_1)))) + (IntKind.u64.wrap (rd l1 x21_1)))) % 4294967296)) := ⟨_, rfl⟩); (replace H : (big_plus.l0 k1 l0 l1 y113 ((IntKind.u64.wrap ((IntKind.u64.wrap (x6_1 + (IntKind.u64.wrap (rd l0 x21_1)))) + (IntKind.u64.wrap (rd l1 x21_1)))) / 4294967296) (l0.length : Int) (wrap64 (x21_1 + 1))) = some r := by first | (rw [hy113]; with_reducible exact H) | (have H2_ := (Option.bind_some _ _).symm.trans H; rw [hy113]; with_reducible exact H2_) | (have H2_ := (Option.bind_some _ _).symm.trans H; with_reducible exact H2_) | with_reducible exact H | (rw [hy113]; exact H) | exact H); have Ny113 := aM hy113; clear hy113; have H' := aM H; clear H; (have p111 : 0 ≤ (x21_1 : Int) := oD z2); (have q111 : x21_1 < (l0.length : Int) := oD z2); (obtain ⟨ad111, e111, hx111_0⟩ := Kd.at_int HR0.out x21_1 p111 q111); cases e111; (replace hx111_0 := kpc HB.out hx111_0); (replace p111 := eq_true p111); (replace q111 := eq_true q111); (have p112 : 0 ≤ (x21_1 : Int) := oD z2); (have q112 : x21_1 < (l1.length : Int) := oD z2)
    (obtain ⟨ad112, e112, hx112_0⟩ := Kd.at_int HR1.out x21_1 p112 q112); cases e112; (replace hx112_0 := kpc HB.out hx112_0); (replace p112 := eq_true p112); (replace q112 := eq_true q112); (have p13 : 0 ≤ (x21_1 : Int) := oD z2); (have q13 : (x21_1 : Int) < ((x5_1.length : Int) : Int) := oD z2); (obtain ⟨go13, co13, eo13, gb13, gl13, cl13, HG13⟩ := Kd.R_form HO_5.out z3); ((first | cases eo13 | (injection eo13 with ea_ en_ ec_; (first | subst ea_ | (injection ea_ with ea_; subst ea_)); subst ec_; clear en_))); have GB13 := aM gb13; have GG13 := aM HG13; clear gb13 gl13 HG13; (obtain ⟨hx13_0, hf13_0⟩ := Kd.R_celln 0 HO_5.out (x21_1 : Int) p13 q13); (replace p13 := eq_true p13); (replace q13 := eq_true q13); (have HP14 := Kd.R_putg HO_5.out (x21_1 : Int) ((IntKind.u64.wrap ((IntKind.u64.wrap (x6_1 + (IntKind.u64.wrap (rd l0 x21_1)))) + (IntKind.u64.wrap (rd l1 x21_1)))) % 4294967296)); (go_wp2_with (first | ((with_reducible refine gate_store (t := 149) (p := 46) rfl ?_); refine store_event (t := 149) (p := 46) (v := ?vo_w15) (w1 := (wr.setCell ⟨go13, (x21_1 : Int).toNat, none⟩ (.int .u32 ((IntKind.u64.wrap ((IntKind.u64.wrap (x6_1 + (IntKind.u64.wrap (rd l0 x21_1)))) + (IntKind.u64.wrap (rd l1 x21_1)))) % 4294967296)))) ?hg ?ho ?hn ?hr ?_; (case ho => rfl); (case hg => rfl); (case hn => rfl); (case hr => first | (go_simp; done) | (go_simp; rfl)); intro w15 hw; have hg : wr.grownBy w15 (some go13) := (by rw [hw]; exact HP14.2); have hp_ : Kd.R (Kd.int .u32) 149 w15 w.heap.size (fun _ => True) (.slice (some ⟨go13, 0, none⟩) x5_1.length co13) y113 := (by rw [hw, Ny113.out]; exact HP14.1); clear HP14; replace HO_5 := aM (hp_); replace HB := aM ((by rw [hw]; exact below_set (HB.out) GB13.out : Below w.heap.size w w15)); clear hg hw hp_)))
    (go_roundg k1); (case measure => have := HK1.out; omega); (case rel => exact ⟨(y113), ((IntKind.u64.wrap ((IntKind.u64.wrap (x6_1 + (IntKind.u64.wrap (rd l0 x21_1)))) + (IntKind.u64.wrap (rd l1 x21_1)))) / 4294967296), (wrap64 (x21_1 + 1)), z4, z4, H', ⟨by have := HK1.out; omega⟩, ⟨by (with_reducible repeat (first | apply Kd.R_alloc | apply Kd.R_drewN | apply Kd.R_drew)); exact HO_5.out⟩, ⟨bel0⟩⟩)
set_option maxHeartbeats 8000000 in
set_option maxRecDepth 100000 in
theorem big_plus.calls1 (k : Nat) (A0 : Option Addr) (c0 : Nat) (l0 : List Int) (A1 : Option Addr) (c1 : Nat) (l1 : List Int) (r : List Int) (w : World) (hr0 : Kd.C (Kd.int .u32) w A0 l0.length l0) (hc0 : l0.length ≤ c0) (hr1 : Kd.C (Kd.int .u32) w A1 l1.length l1) (hc1 : l1.length ≤ c1) (hsw : decide ((l1.length : Int) < (l0.length : Int)) = true) (hsw2 : decide (l1.length < l0.length) = true) (h : big_plus.f k l0 l1 = some r) :
    Calls Tryd.prog 133 #[.slice A1 l1.length c1, .slice A0 l0.length c0] w fun e w' => ∃ v0_ : Value, e = .returned (v0_) ∧ Kd.R (Kd.int .u32) 149 w' w.heap.size (fun _ => True) v0_ r ∧ Below w.heap.size w w' := by
  have HR0 := aM hr0; have HC0 := aM hc0; clear hr0 hc0; have HR1 := aM hr1; have HC1 := aM hc1; clear hr1 hc1; (have HB := aM (Below.refl w.heap.size w)); (have H : (if 0 ≤ (wrap64 ((l0.length : Int) + 1)) then (if (wrap64 ((l0.length : Int) + 1) : Int).toNat ≤ 70368744177664 then (big_plus.l0 k l0 l1 (List.replicate (wrap64 ((l0.length : Int) + 1) : Int).toNat 0) 0 (l0.length : Int) 0) else (none)) else (none)) = some r := h); clear h; (obtain ⟨ji3, hji3⟩ : ∃ j_ : Int, (wrap64 ((l0.length : Int) + 1)) = j_ := ⟨_, rfl⟩); (replace H : (if 0 ≤ (ji3) then (if (ji3 : Int).toNat ≤ 70368744177664 then (big_plus.l0 k l0 l1 (List.replicate (ji3 : Int).toNat 0) 0 (l0.length : Int) 0) else (none)) else (none)) = some r := by first | (rw [hji3] at H; exact H) | (simp only [hji3] at H ⊢; exact H)); (have hji3w : (IntKind.i64.wrap ((l0.length : Int) + 1)) = ji3 := (i64_w _).trans hji3); by_cases c4 : 0 ≤ (ji3); rotate_left
  · rw [if_neg c4] at H; (exact absurd H (by simp))
  rw [if_pos c4] at H; (have c4b0 := eq_true c4); (have c4b1 : decide (0 ≤ (ji3)) = true := dT c4); clear c4; by_cases c5 : (ji3 : Int).toNat ≤ 70368744177664; rotate_left
  · rw [if_neg c5] at H; (exact absurd H (by simp))
  rw [if_pos c5] at H; (have c5b0 := eq_true c5); (have c5b1 : decide ((ji3 : Int).toNat ≤ 70368744177664) = true := dT c5); clear c5; (obtain ⟨y108, hy108⟩ : ∃ y_ : List Int, y_ = (List.replicate (ji3 : Int).toNat 0) := ⟨_, rfl⟩); (replace H : (big_plus.l0 k l0 l1 y108 0 (l0.length : Int) 0) = some r := by first | (rw [hy108]; with_reducible exact H) | (have H2_ := (Option.bind_some _ _).symm.trans H; rw [hy108]; with_reducible exact H2_) | (have H2_ := (Option.bind_some _ _).symm.trans H; with_reducible exact H2_) | with_reducible exact H | (rw [hy108]; exact H) | exact H); have Ny108 := aM hy108; clear hy108; have H' := aM H; clear H; (go_enter Tryd.func133, Tryd.ntmps133); (go_wp2_with (first | ((with_reducible refine gate_dst (N := 18) rfl ?_); refine Kd.R_make (Kd.int .u32) _ 149 rfl (N := 18) rfl 119 _ _ rfl ji3 rfl rfl Tryd.underlying119 (.int .u32 0) 4 info149 rfl z10 z3 0 (ok := fun _ => True) (okp := fun _ => True) rfl (fun _ hk => hk) trivial (oD z2) (Nat.le_trans (Nat.mul_le_mul_right _ (oD z2 : ji3.toNat ≤ 70368744177664)) z3) (Below.refl _ _) (Nat.le_refl _) ?_; intro v109 w6 ho7 hb hg_ hnew_; clear hg_ hnew_; (first | rw [← Ny108.out] at ho7 | (simp only [Int.reduceToNat] at ho7; rw [← Ny108.out] at ho7)); have HO110 := aM (Kd.R_lower ho7 (below_size bel0)); replace HB := aM (below_step bel0 hb); clear hb ho7)))
  (go_loopg [6, 21] k (fun kq v6 v21 w' => ∃ (x5_1 : List Int) (x6_1 : Int) (x21_1 : Int), v6 = .int .u64 x6_1 ∧ v21 = .int .i64 x21_1 ∧ Aside0 (big_plus.l0 kq l0 l1 x5_1 x6_1 (l0.length : Int) x21_1 = some r) ∧ Aside0 (kq ≤ k) ∧ Aside0 (Kd.R (Kd.int .u32) 149 w' w.heap.size (fun _ => True) v109 x5_1) ∧ Aside0 (Below w.heap.size w w'))); (case atStart => exact ⟨(y108), (0), (0), z4, z4, H', ⟨Nat.le_refl _⟩, ⟨by (with_reducible repeat (first | apply Kd.R_alloc | apply Kd.R_drewN | apply Kd.R_drew)); exact HO110.out⟩, ⟨bel0⟩⟩)
  case round =>
   clear H'; (try clear c1); (try clear p2); (try clear c4); (try clear c4b0); (try clear c4b1); (try clear c5); (try clear c5b0); (try clear c5b1); (try clear p6); obtain ⟨x5_1, x6_1, x21_1, rfl, rfl, HA, HK1, HO_5, HB⟩ := hrel
   cases gk with
   | zero => exact absurd HA.out (by simp [big_plus.l0])
   | succ k1 =>
    have H := HA.out; clear HA; simp only [big_plus.l0] at H; by_cases c8 : x21_1 < (l0.length : Int); rotate_left
    · rw [if_neg c8] at H; (have c8b0 : decide (x21_1 < (l0.length : Int)) = false := dF c8); clear c8; by_cases c20 : 0 ≤ (l0.length : Int); rotate_left
      · rw [if_neg c20] at H; (exact absurd H (by simp))
      rw [if_pos c20] at H; (have c20b0 : decide (0 ≤ (l0.length : Int)) = true := dT c20); (have c20b1 : decide (0 ≤ l0.length) = true := dT z3); clear c20; by_cases c21 : (l0.length : Int) < (x5_1.length : Int); rotate_left
      · rw [if_neg c21] at H; (exact absurd H (by simp))
      rw [if_pos c21] at H; (have c21b0 : decide ((l0.length : Int) < (x5_1.length : Int)) = true := dT c21); (have c21b1 : decide (l0.length < x5_1.length) = true := dT (Int.ofNat_lt.mp c21)); clear c21; (obtain ⟨y115, hy115⟩ : ∃ y_ : List Int, y_ = (x5_1.set ((l0.length : Int) : Int).toNat ((x6_1) % 4294967296)) := ⟨_, rfl⟩); (replace H : ((big_trim.f k1 y115).bind fun t116 => (some t116)) = some r := by first | (rw [hy115]; with_reducible exact H) | (have H2_ := (Option.bind_some _ _).symm.trans H; rw [hy115]; with_reducible exact H2_) | (have H2_ := (Option.bind_some _ _).symm.trans H; with_reducible exact H2_) | with_reducible exact H | (rw [hy115]; exact H) | exact H); have Ny115 := aM hy115; clear hy115; (replace H := oB H); obtain ⟨t116, A230, H⟩ := H; (replace H : (some t116) = some r := H); have A23 := aM A230; clear A230; (obtain rfl := sI H); (have p22 : 0 ≤ ((l0.length : Int) : Int) := oD z2); (have q22 : ((l0.length : Int) : Int) < ((x5_1.length : Int) : Int) := oD z2); (obtain ⟨go22, co22, eo22, gb22, gl22, cl22, HG22⟩ := Kd.R_form HO_5.out z3); ((first | cases eo22 | (injection eo22 with ea_ en_ ec_; (first | subst ea_ | (injection ea_ with ea_; subst ea_)); subst ec_; clear en_))); have GB22 := aM gb22; have GG22 := aM HG22; clear gb22 gl22 HG22; (obtain ⟨hx22_0, hf22_0⟩ := Kd.R_celln 0 HO_5.out ((l0.length : Int) : Int) p22 q22)
      (replace p22 := eq_true p22); (replace q22 := eq_true q22); (have hx22_1 : wr.cell? ⟨go22, l0.length, none⟩ = _ := hx22_0); (have hf22_1 : wr.frozen? ⟨go22, l0.length, none⟩ = _ := hf22_0); clear hx22_0 hf22_0; (have HP24 := Kd.R_putg HO_5.out ((l0.length : Int) : Int) ((x6_1) % 4294967296)); (go_wp2_with (first | ((with_reducible refine gate_store (t := 149) (p := 55) rfl ?_); refine store_event (t := 149) (p := 55) (v := ?vo_w25) (w1 := (wr.setCell ⟨go22, l0.length, none⟩ (.int .u32 ((x6_1) % 4294967296)))) ?hg ?ho ?hn ?hr ?_; (case ho => rfl); (case hg => rfl); (case hn => rfl); (case hr => first | (go_simp; done) | (go_simp; rfl)); intro w25 hw; have hg : wr.grownBy w25 (some go22) := (by rw [hw]; exact HP24.2); have hp_ : Kd.R (Kd.int .u32) 149 w25 w.heap.size (fun _ => True) (.slice (some ⟨go22, 0, none⟩) x5_1.length co22) y115 := (by rw [hw, Ny115.out]; exact HP24.1); clear HP24; replace HO_5 := aM (hp_); replace HB := aM ((by rw [hw]; exact below_set (HB.out) GB22.out : Below w.heap.size w w25)); clear hg hw hp_) | ((with_reducible refine gate_callee (f := 123) rfl ?_); refine goesL_ (some 57) rfl rfl Tryd.func123 z9 rfl #[.slice (some ⟨go22, 0, none⟩) x5_1.length co22] rfl z1 ?_; (with_reducible refine (big_trim.calls k1 (fun k_ => some k_ = (.slice (some ⟨go22, 0, none⟩) x5_1.length co22 : Value).ownBlock) (.slice (some ⟨go22, 0, none⟩) x5_1.length co22) y115 t116 w _ ?side1 ?side2 A23.out).mono ?_); (case side1 => repeat (first | (with_reducible first | exact HB.out | apply below_alloc | apply pw_below_drewN | apply below_drew1) | exact HB.out)); (case side2 => exact Kd.R_tight rfl HO_5.out); rintro e w26 ⟨v117, rfl, ho0, hb, hkp⟩; refine ⟨_, rfl, ?_⟩; have HO118 := aM (Kd.R_mono (ok' := fun k_ => True) ho0 (fun k_ hk_ => trivial)); replace HB := aM (hb); clear HO_5; (try clear hb); (try clear hkp); (try clear ho0))))
      go_ret; (exact ⟨_, by first | rfl | (simp [errW_none, errW_some] <;> rfl) | (simp only [← hji3]; first | rfl | (simp [errW_none, errW_some] <;> rfl)) | (simp [*, errW_none, errW_some] <;> rfl), rA HO118.out, bel0⟩)
    rw [if_pos c8] at H; (have c8b0 : decide (x21_1 < (l0.length : Int)) = true := dT c8); clear c8; by_cases c9 : 0 ≤ x21_1; rotate_left
    · rw [if_neg c9] at H; (exact absurd H (by simp))
    rw [if_pos c9] at H; (have c9b0 : decide (0 ≤ x21_1) = true := dT c9); clear c9; by_cases c10 : x21_1 < (l0.length : Int); rotate_left
    · rw [if_neg c10] at H; (exact absurd H (by simp))
    rw [if_pos c10] at H; (have c10b0 : decide (x21_1 < (l0.length : Int)) = true := dT c10); clear c10; by_cases c11 : x21_1 < (l1.length : Int); rotate_left
    · rw [if_neg c11] at H; (have c11b0 : decide (x21_1 < (l1.length : Int)) = false := dF c11); clear c11; by_cases c16 : x21_1 < (x5_1.length : Int); rotate_left
      · rw [if_neg c16] at H; (exact absurd H (by simp))
      rw [if_pos c16] at H; (have c16b0 : decide (x21_1 < (x5_1.length : Int)) = true := dT c16); clear c16; (obtain ⟨y114, hy114⟩ : ∃ y_ : List Int, y_ = (x5_1.set (x21_1 : Int).toNat ((IntKind.u64.wrap (x6_1 + (IntKind.u64.wrap (rd l0 x21_1)))) % 4294967296)) := ⟨_, rfl⟩); (replace H : (big_plus.l0 k1 l0 l1 y114 ((IntKind.u64.wrap (x6_1 + (IntKind.u64.wrap (rd l0 x21_1)))) / 4294967296) (l0.length : Int) (wrap64 (x21_1 + 1))) = some r := by first | (rw [hy114]; with_reducible exact H) | (have H2_ := (Option.bind_some _ _).symm.trans H; rw [hy114]; with_reducible exact H2_) | (have H2_ := (Option.bind_some _ _).symm.trans H; with_reducible exact H2_) | with_reducible exact H | (rw [hy114]; exact H) | exact H); have Ny114 := aM hy114; clear hy114; have H' := aM H; clear H; (have p111 : 0 ≤ (x21_1 : Int) := oD z2); (have q111 : x21_1 < (l0.length : Int) := oD z2); (obtain ⟨ad111, e111, hx111_0⟩ := Kd.at_int HR0.out x21_1 p111 q111); cases e111; (replace hx111_0 := kpc HB.out hx111_0); (replace p111 := eq_true p111); (replace q111 := eq_true q111); (have p17 : 0 ≤ (x21_1 : Int) := oD z2); (have q17 : (x21_1 : Int) < ((x5_1.length : Int) : Int) := oD z2); (obtain ⟨go17, co17, eo17, gb17, gl17, cl17, HG17⟩ := Kd.R_form HO_5.out z3)
      ((first | cases eo17 | (injection eo17 with ea_ en_ ec_; (first | subst ea_ | (injection ea_ with ea_; subst ea_)); subst ec_; clear en_))); have GB17 := aM gb17; have GG17 := aM HG17; clear gb17 gl17 HG17; (obtain ⟨hx17_0, hf17_0⟩ := Kd.R_celln 0 HO_5.out (x21_1 : Int) p17 q17); (replace p17 := eq_true p17); (replace q17 := eq_true q17); (have HP18 := Kd.R_putg HO_5.out (x21_1 : Int) ((IntKind.u64.wrap (x6_1 + (IntKind.u64.wrap (rd l0 x21_1)))) % 4294967296)); (go_wp2_with (first | ((with_reducible refine gate_store (t := 149) (p := 46) rfl ?_); refine store_event (t := 149) (p := 46) (v := ?vo_w19) (w1 := (wr.setCell ⟨go17, (x21_1 : Int).toNat, none⟩ (.int .u32 ((IntKind.u64.wrap (x6_1 + (IntKind.u64.wrap (rd l0 x21_1)))) % 4294967296)))) ?hg ?ho ?hn ?hr ?_; (case ho => rfl); (case hg => rfl); (case hn => rfl); (case hr => first | (go_simp; done) | (go_simp; rfl)); intro w19 hw; have hg : wr.grownBy w19 (some go17) := (by rw [hw]; exact HP18.2); have hp_ : Kd.R (Kd.int .u32) 149 w19 w.heap.size (fun _ => True) (.slice (some ⟨go17, 0, none⟩) x5_1.length co17) y114 := (by rw [hw, Ny114.out]; exact HP18.1); clear HP18; replace HO_5 := aM (hp_); replace HB := aM ((by rw [hw]; exact below_set (HB.out) GB17.out : Below w.heap.size w w19)); clear hg hw hp_))); (go_roundg k1); (case measure => have := HK1.out; omega); (case rel => exact ⟨(y114), ((IntKind.u64.wrap (x6_1 + (IntKind.u64.wrap (rd l0 x21_1)))) / 4294967296), (wrap64 (x21_1 + 1)), z4, z4, H', ⟨by have := HK1.out; omega⟩, ⟨by (with_reducible repeat (first | apply Kd.R_alloc | apply Kd.R_drewN | apply Kd.R_drew)); exact HO_5.out⟩, ⟨bel0⟩⟩)
    rw [if_pos c11] at H; (have c11b0 : decide (x21_1 < (l1.length : Int)) = true := dT c11); clear c11; by_cases c12 : x21_1 < (x5_1.length : Int); rotate_left
    · rw [if_neg c12] at H; (exact absurd H (by simp))
    rw [if_pos c12] at H; (have c12b0 : decide (x21_1 < (x5_1.length : Int)) = true := dT c12); clear c12; (obtain ⟨y113, hy113⟩ : ∃ y_ : List Int, y_ = (x5_1.set (x21_1 : Int).toNat ((IntKind.u64.wrap ((IntKind.u64.wrap (x6_1 + (IntKind.u64.wrap (rd l0 x21_1)))) + (IntKind.u64.wrap (rd l1 x21_1)))) % 4294967296)) := ⟨_, rfl⟩); (replace H : (big_plus.l0 k1 l0 l1 y113 ((IntKind.u64.wrap ((IntKind.u64.wrap (x6_1 + (IntKind.u64.wrap (rd l0 x21_1)))) + (IntKind.u64.wrap (rd l1 x21_1)))) / 4294967296) (l0.length : Int) (wrap64 (x21_1 + 1))) = some r := by first | (rw [hy113]; with_reducible exact H) | (have H2_ := (Option.bind_some _ _).symm.trans H; rw [hy113]; with_reducible exact H2_) | (have H2_ := (Option.bind_some _ _).symm.trans H; with_reducible exact H2_) | with_reducible exact H | (rw [hy113]; exact H) | exact H); have Ny113 := aM hy113; clear hy113; have H' := aM H; clear H; (have p111 : 0 ≤ (x21_1 : Int) := oD z2); (have q111 : x21_1 < (l0.length : Int) := oD z2); (obtain ⟨ad111, e111, hx111_0⟩ := Kd.at_int HR0.out x21_1 p111 q111); cases e111; (replace hx111_0 := kpc HB.out hx111_0); (replace p111 := eq_true p111); (replace q111 := eq_true q111); (have p112 : 0 ≤ (x21_1 : Int) := oD z2); (have q112 : x21_1 < (l1.length : Int) := oD z2)
    (obtain ⟨ad112, e112, hx112_0⟩ := Kd.at_int HR1.out x21_1 p112 q112); cases e112; (replace hx112_0 := kpc HB.out hx112_0); (replace p112 := eq_true p112); (replace q112 := eq_true q112); (have p13 : 0 ≤ (x21_1 : Int) := oD z2); (have q13 : (x21_1 : Int) < ((x5_1.length : Int) : Int) := oD z2); (obtain ⟨go13, co13, eo13, gb13, gl13, cl13, HG13⟩ := Kd.R_form HO_5.out z3); ((first | cases eo13 | (injection eo13 with ea_ en_ ec_; (first | subst ea_ | (injection ea_ with ea_; subst ea_)); subst ec_; clear en_))); have GB13 := aM gb13; have GG13 := aM HG13; clear gb13 gl13 HG13; (obtain ⟨hx13_0, hf13_0⟩ := Kd.R_celln 0 HO_5.out (x21_1 : Int) p13 q13); (replace p13 := eq_true p13); (replace q13 := eq_true q13); (have HP14 := Kd.R_putg HO_5.out (x21_1 : Int) ((IntKind.u64.wrap ((IntKind.u64.wrap (x6_1 + (IntKind.u64.wrap (rd l0 x21_1)))) + (IntKind.u64.wrap (rd l1 x21_1)))) % 4294967296)); (go_wp2_with (first | ((with_reducible refine gate_store (t := 149) (p := 46) rfl ?_); refine store_event (t := 149) (p := 46) (v := ?vo_w15) (w1 := (wr.setCell ⟨go13, (x21_1 : Int).toNat, none⟩ (.int .u32 ((IntKind.u64.wrap ((IntKind.u64.wrap (x6_1 + (IntKind.u64.wrap (rd l0 x21_1)))) + (IntKind.u64.wrap (rd l1 x21_1)))) % 4294967296)))) ?hg ?ho ?hn ?hr ?_; (case ho => rfl); (case hg => rfl); (case hn => rfl); (case hr => first | (go_simp; done) | (go_simp; rfl)); intro w15 hw; have hg : wr.grownBy w15 (some go13) := (by rw [hw]; exact HP14.2); have hp_ : Kd.R (Kd.int .u32) 149 w15 w.heap.size (fun _ => True) (.slice (some ⟨go13, 0, none⟩) x5_1.length co13) y113 := (by rw [hw, Ny113.out]; exact HP14.1); clear HP14; replace HO_5 := aM (hp_); replace HB := aM ((by rw [hw]; exact below_set (HB.out) GB13.out : Below w.heap.size w w15)); clear hg hw hp_)))
    (go_roundg k1); (case measure => have := HK1.out; omega); (case rel => exact ⟨(y113), ((IntKind.u64.wrap ((IntKind.u64.wrap (x6_1 + (IntKind.u64.wrap (rd l0 x21_1)))) + (IntKind.u64.wrap (rd l1 x21_1)))) / 4294967296), (wrap64 (x21_1 + 1)), z4, z4, H', ⟨by have := HK1.out; omega⟩, ⟨by (with_reducible repeat (first | apply Kd.R_alloc | apply Kd.R_drewN | apply Kd.R_drew)); exact HO_5.out⟩, ⟨bel0⟩⟩)
end Go.Proofs.YtbanemecfobonaaDoor.B
namespace Go.Proofs.YtbanemecfobonaaDoor.B
open Go.RowKit Go.Proofs.YtbanemecfobonaaDoorW.PrintWords Go.Proofs.YtbanemecfobonaaDoorW.PrintLast Go.Proofs.YtbanemecfobonaaDoorW.PrintMore
set_option linter.unusedVariables false
set_option linter.unusedSimpArgs false
def WA (w : World) (A : Option Addr) (c : Nat) (l : List Int) : Prop :=
  Kd.C (Kd.int .u32) w A l.length l ∧ l.length ≤ c ∧ ∀ ad, A = some ad → ∃ cs, w.heap[ad.block]? = some (.cells cs 149 (0, 0))
section
variable {w w' : World} {A : Option Addr} {c : Nat} {l : List Int} {g : Nat} {cs : Array Value} {t : TypeId}
theorem WA.nil (w : World) : WA w none 0 [] := ⟨Kd.C_nil _ _, Nat.le_refl _, fun _ h => nomatch h⟩
theorem WA.of_R {base : Nat} {ok : Nat → Prop} {v : Value} (h : Kd.R (Kd.int .u32) 149 w base ok v l) : ∃ A c, v = .slice A l.length c ∧ WA w A c l := by
  obtain ⟨A, c, rfl, hc, hr⟩ := Kd.R_reads h
  refine ⟨A, c, rfl, hr, hc, fun ad he => ?_⟩
  obtain ⟨inner, ho, _⟩ := h.2
  rcases ho.2 with ⟨hv, _⟩ | ⟨g, cap, cur, hv, _, hg, _⟩
  · simp [he] at hv
  · simp only [Value.slice.injEq] at hv
    rw [he] at hv
    obtain rfl := sI hv.1
    exact ⟨cur, hg⟩
theorem WA.keep (h : WA w A c l) (hg : w.heap[g]? = some (.cells cs t (0, 0))) (ht : t ≠ 149) (hk : KeepBut w w' g none) : WA w' A c l := by
  have hne : ∀ ad, A = some ad → ad.block ≠ g := fun ad he => by
    obtain ⟨cs2, h2⟩ := h.2.2 ad he
    exact blk_ne h2 hg (fun e => ht e.symm)
  refine ⟨Kd.C_foot_ne (fun h => h) h.1 (fun ad he _ => hne ad he) _ hk, h.2.1, fun ad he => ?_⟩
  obtain ⟨cs2, h2⟩ := h.2.2 ad he
  exact ⟨cs2, KeepBut.blk hk h2 (hne ad he) (by simp)⟩
theorem WA.below (h : WA w A c l) (hb : Below w.heap.size w w') : WA w' A c l :=
  ⟨Kd.C_below h.1 hb, h.2.1, fun ad he => by obtain ⟨cs2, h2⟩ := h.2.2 ad he; exact ⟨cs2, blk_below h2 hb⟩⟩
theorem WA.drewN (h : WA w A c l) (n : Nat) : WA (w.drewN n) A c l := h.below (pw_below_drewN (Below.refl _ _) n)
theorem WA.alloc (h : WA w A c l) (o : Obj) : WA (w.alloc o) A c l := h.below (below_alloc (Below.refl _ _) o)
theorem WA.put (h : WA w A c l) (hg : w.heap[g]? = some (.cells cs t (0, 0))) (ht : t ≠ 149) (i : Nat) (u : Value) : WA (w.setCell ⟨g, i, none⟩ u) A c l := h.keep hg ht ((KeepBut.refl w g none).set_ i u)
end
theorem WA.lit1 (w : World) (x : Int) : WA (w.alloc (.cells #[.int .u32 x] 149)) (some ⟨w.heap.size, 0, none⟩) 1 [x] := by
  have h : Kd.R (Kd.int .u32) 149 (w.alloc (.cells #[.int .u32 x] 149)) w.heap.size (fun _ => True) (.slice (some ⟨w.heap.size, 0, none⟩) 1 1) [x] :=
    ⟨fun _ _ => trivial, OwnRow.lit (size := 1) w w.heap.size (inner := [.int .u32 x]) (Reps.one (show Kd.M (Kd.int .u32) _ _ _ x [.int .u32 x] from rfl) (Reps.none _ _)) (Nat.le_refl _) (by simp)⟩
  obtain ⟨A, c, he, ha⟩ := WA.of_R h
  simp only [Value.slice.injEq] at he
  rw [he.1, he.2.2]
  exact ha
def IntC (w : World) (g : Nat) (neg : Bool) (l : List Int) : Prop :=
  ∃ cs t A c, w.heap[g]? = some (.cells cs t (0, 0)) ∧ t ≠ 149 ∧ cs[0]? = some (.bool neg) ∧ cs[1]? = some (.slice A l.length c) ∧ WA w A c l
def Only (w w' : World) (g : Nat) : Prop := (w'.os = w.os ∧ w'.tape = w.tape ∧ w'.output = w.output) ∧ KeepBut w w' g none
section
variable {w w0 w1 w2 : World} {g : Nat}
theorem Only.refl (w : World) (g : Nat) : Only w w g := ⟨⟨rfl, rfl, rfl⟩, KeepBut.refl w g none⟩
theorem Only.set_ (h : Only w w1 g) (i : Nat) (u : Value) : Only w (w1.setCell ⟨g, i, none⟩ u) g :=
  have b : Below 0 w1 (w1.setCell ⟨g, i, none⟩ u) := (Below.refl 0 w1).setCell (Nat.zero_le _) u
  ⟨⟨b.os.trans h.1.1, b.tape.trans h.1.2.1, b.output.trans h.1.2.2⟩, h.2.set_ i u⟩
theorem Only.of_below (h : Below w.heap.size w w1) (g : Nat) : Only w w1 g := ⟨⟨h.os, h.tape, h.output⟩, KeepBut.of_below h g none⟩
theorem Only.trans (h : Only w w1 g) (k : Only w1 w2 g) : Only w w2 g :=
  ⟨⟨k.1.1.trans h.1.1, k.1.2.1.trans h.1.2.1, k.1.2.2.trans h.1.2.2⟩, h.2.trans k.2 (.inl rfl)⟩
theorem Only.below (h : Only w w1 g) (hb : Below w0.heap.size w0 w) (hg : w0.heap.size ≤ g) : Below w0.heap.size w0 w1 :=
  ⟨h.1.1.trans hb.os, h.1.2.1.trans hb.tape, h.1.2.2.trans hb.output, Nat.le_trans hb.size h.2.1, fun k hk => (h.2.2 k (Nat.lt_of_lt_of_le hk hb.size) z3 (by simp)).trans (hb.block k hk)⟩
end
set_option maxHeartbeats 800000 in
set_option maxRecDepth 100000 in
theorem big_Int_set.calls (g : Nat) (cs : Array Value) (t : TypeId) (neg : Bool) (A : Option Addr) (c : Nat) (l : List Int) (w : World) (hg : w.heap[g]? = some (.cells cs t (0, 0))) (hs : 2 ≤ cs.size) :
    Calls Tryd.prog 108 #[.pointer (some ⟨g, 0, none⟩), .bool neg, .slice A l.length c] w fun e w' => e = .returned (.pointer (some ⟨g, 0, none⟩)) ∧ Only w w' g ∧ w'.heap.size = w.heap.size ∧ w'.heap[g]? = some (.cells ((cs.setIfInBounds 0 (.bool (neg && decide (0 < l.length)))).setIfInBounds 1 (.slice A l.length c)) t (0, 0)) := by
  have hf0 := blk_frozen hg 0
  have hf1 := blk_frozen hg 1
  have hc0 : ∃ v, w.cell? ⟨g, 0, none⟩ = some v := ⟨cs[0], (blk_cell hg 0).trans (by simp)⟩
  have hc1 : ∃ v, w.cell? ⟨g, 1, none⟩ = some v := ⟨cs[1], (blk_cell hg 1).trans (by simp)⟩
  obtain ⟨v0, hc0⟩ := hc0
  obtain ⟨v1, hc1⟩ := hc1
  by_cases hn : neg = true
  · subst hn
    have HG := aM hg
    clear hg
    go_enter Tryd.func108, Tryd.ntmps108
    go_wp2
    go_ret
    refine ⟨rfl, ((Only.refl w g).set_ _ _).set_ _ _, by simp, ?_⟩
    exact (blk_set (blk_set HG.out 0 _) 1 _).trans (by simp)
  · replace hn : neg = false := by simpa using hn
    subst hn
    have HG := aM hg
    clear hg
    go_enter Tryd.func108, Tryd.ntmps108
    go_wp2
    go_ret
    refine ⟨rfl, ((Only.refl w g).set_ _ _).set_ _ _, by simp, ?_⟩
    exact (blk_set (blk_set HG.out 0 _) 1 _).trans (by simp)
def PutI (w w' : World) (g : Nat) (cs : Array Value) (t : TypeId) (neg : Bool) (l : List Int) : Prop :=
  Only w w' g ∧ ∃ A c, WA w' A c l ∧ w'.heap[g]? = some (.cells ((cs.setIfInBounds 0 (.bool (neg && decide (0 < l.length)))).setIfInBounds 1 (.slice A l.length c)) t (0, 0))
theorem PutI.of_set {w w1 w2 : World} {g : Nat} {cs : Array Value} {t : TypeId} {neg : Bool} {l : List Int} {A : Option Addr} {c : Nat} (hg : w.heap[g]? = some (.cells cs t (0, 0))) (ht : t ≠ 149)
    (hb : Below w.heap.size w w1) (hr : WA w1 A c l) (hk : Only w1 w2 g) (he : w2.heap[g]? = some (.cells ((cs.setIfInBounds 0 (.bool (neg && decide (0 < l.length)))).setIfInBounds 1 (.slice A l.length c)) t (0, 0))) : PutI w w2 g cs t neg l :=
  ⟨(Only.of_below hb g).trans hk, A, c, hr.keep (blk_below hg hb) ht hk.2, he⟩
set_option maxHeartbeats 800000 in
set_option maxRecDepth 100000 in
theorem big_Int_Mul.calls (k g gx gy : Nat) (cs : Array Value) (t : TypeId) (nx ny : Bool) (lx ly r : List Int) (w : World) (hg : w.heap[g]? = some (.cells cs t (0, 0))) (ht : t ≠ 149) (hs : 2 ≤ cs.size) (hx : IntC w gx nx lx) (hy : IntC w gy ny ly) (hgx : gx ≠ g) (hgy : gy ≠ g) (h : big_times.f k lx ly = some r) :
    Calls Tryd.prog 119 #[.pointer (some ⟨g, 0, none⟩), .pointer (some ⟨gx, 0, none⟩), .pointer (some ⟨gy, 0, none⟩)] w fun e w' => e = .returned (.pointer (some ⟨g, 0, none⟩)) ∧ PutI w w' g cs t (nx != ny) r := by
  obtain ⟨csx, tx, Ax, cx, hx1, hx2, hx3, hx4, hx5⟩ := hx; obtain ⟨csy, ty, Ay, cy, hy1, hy2, hy3, hy4, hy5⟩ := hy; (have hcx0 : w.cell? ⟨gx, 0, none⟩ = some (.bool nx) := (blk_cell hx1 0).trans hx3); (have hcx1 : w.cell? ⟨gx, 1, none⟩ = some (.slice Ax lx.length cx) := (blk_cell hx1 1).trans hx4); (have hcy0 : w.cell? ⟨gy, 0, none⟩ = some (.bool ny) := (blk_cell hy1 0).trans hy3); (have hcy1 : w.cell? ⟨gy, 1, none⟩ = some (.slice Ay ly.length cy) := (blk_cell hy1 1).trans hy4); have HG := aM hg; have HX := aM hx5; have HY := aM hy5; (have HS := aM (show ∀ w1, Below w.heap.size w w1 → w1.cell? ⟨gx, 0, none⟩ = some (.bool nx) ∧ w1.cell? ⟨gx, 1, none⟩ = some (.slice Ax lx.length cx) ∧ w1.cell? ⟨gy, 0, none⟩ = some (.bool ny) ∧ w1.cell? ⟨gy, 1, none⟩ = some (.slice Ay ly.length cy) from fun w1 hb => ⟨(blk_cell (blk_below hx1 hb) 0).trans hx3, (blk_cell (blk_below hx1 hb) 1).trans hx4, (blk_cell (blk_below hy1 hb) 0).trans hy3, (blk_cell (blk_below hy1 hb) 1).trans hy4⟩)); (have HS2 := aM (show ∀ w1 w2, Below w.heap.size w w1 → KeepBut w1 w2 g none → w2.cell? ⟨gx, 0, none⟩ = some (.bool nx) ∧ w2.cell? ⟨gx, 1, none⟩ = some (.slice Ax lx.length cx) ∧ w2.cell? ⟨gy, 0, none⟩ = some (.bool ny) ∧ w2.cell? ⟨gy, 1, none⟩ = some (.slice Ay ly.length cy) from fun w1 w2 hb hk => ⟨keep_cell hk ((blk_cell (blk_below hx1 hb) 0).trans hx3) hgx, keep_cell hk ((blk_cell (blk_below hx1 hb) 1).trans hx4) hgx, keep_cell hk ((blk_cell (blk_below hy1 hb) 0).trans hy3) hgy, keep_cell hk ((blk_cell (blk_below hy1 hb) 1).trans hy4) hgy⟩))
  clear hg hx5 hy5 hx1 hx2 hx3 hx4 hy1 hy2 hy3 hy4; (go_enter Tryd.func119, Tryd.ntmps119); go_wp2
  go_region_held3 (fun w1 => w1.cell? ⟨gx, 0, none⟩ = some (.bool nx) ∧ w1.cell? ⟨gx, 1, none⟩ = some (.slice Ax lx.length cx) ∧ w1.cell? ⟨gy, 0, none⟩ = some (.bool ny) ∧ w1.cell? ⟨gy, 1, none⟩ = some (.slice Ay ly.length cy)) (first | exact ⟨hcx0, hcx1, hcy0, hcy1⟩ | exact HS2.out _ _ hb.out hk.out.2 | exact HS.out _ hb.out | go_keep)
    (first
    | (go_at_call 122; refine (big_times.calls k Ax cx lx Ay cy ly r _ (by first | exact HX.out.1 | exact Kd.C_drewN HX.out.1 _) HX.out.2.1 (by first | exact HY.out.1 | exact Kd.C_drewN HY.out.1 _) HY.out.2.1 h).mono ?_; rintro e w1 ⟨v, rfl, hv, hb⟩; replace hb : Below w.heap.size w w1 := ⟨hb.os, hb.tape, hb.output, hb.size, hb.block⟩; obtain ⟨Ar, cr, rfl, hr⟩ := WA.of_R hv; clear hv; replace hr := aM hr; replace hb := aM hb)
    | (go_at_call 108; refine (big_Int_set.calls g cs t _ Ar cr r _ (blk_below HG.out hb.out) hs).mono ?_; rintro e w2 ⟨rfl, hk, hz, he⟩; replace hk := aM hk; replace he := aM he; clear hz))
  (rename_i hHeld); clear hHeld HS HS2 hcx0 hcx1 hcy0 hcy1; go_wp2; (go_outline); go_ret; (exact ⟨rfl, PutI.of_set HG.out ht hb.out hr.out hk.out (by have := he.out; simpa [bne] using this)⟩)
end Go.Proofs.YtbanemecfobonaaDoor.B
namespace Go.Proofs.YtbanemecfobonaaDoor.B
open Go.RowKit Go.Proofs.YtbanemecfobonaaDoorW.PrintWords Go.Proofs.YtbanemecfobonaaDoorW.PrintLast Go.Proofs.YtbanemecfobonaaDoorW.PrintMore
set_option linter.unusedVariables false
set_option linter.unusedSimpArgs false
def plus2 (k : Nat) (a b : List Int) : Option (List Int) := if a.length < b.length then big_plus.f k b a else big_plus.f k a b
theorem plus2.calls (k : Nat) (A0 : Option Addr) (c0 : Nat) (l0 : List Int) (A1 : Option Addr) (c1 : Nat) (l1 : List Int) (r : List Int) (w : World) (hr0 : Kd.C (Kd.int .u32) w A0 l0.length l0) (hc0 : l0.length ≤ c0) (hr1 : Kd.C (Kd.int .u32) w A1 l1.length l1) (hc1 : l1.length ≤ c1) (h : plus2 k l0 l1 = some r) :
    Calls Tryd.prog 133 #[.slice A0 l0.length c0, .slice A1 l1.length c1] w fun e w' => ∃ v0_ : Value, e = .returned (v0_) ∧ Kd.R (Kd.int .u32) 149 w' w.heap.size (fun _ => True) v0_ r ∧ Below w.heap.size w w' := by
  unfold plus2 at h
  split at h
  · rename_i hlt
    exact big_plus.calls1 k A1 c1 l1 A0 c0 l0 r w hr1 hc1 hr0 hc0 (dT z3) (dT hlt) h
  · rename_i hlt
    exact big_plus.calls0 k A0 c0 l0 A1 c1 l1 r w hr0 hc0 hr1 hc1 (dF z3) (dF hlt) h
set_option maxHeartbeats 800000 in
set_option maxRecDepth 100000 in
theorem big_Rat_below.calls (g : Nat) (v0 v1 : Value) (t : TypeId) (A : Option Addr) (c : Nat) (l : List Int) (w : World) (hg : w.heap[g]? = some (.cells #[v0, v1, .slice A l.length c] t (0, 0))) (hA : WA w A c l) :
    Calls Tryd.prog 109 #[.pointer (some ⟨g, 0, none⟩)] w fun e w' => ∃ A' c', WA w' A' c' (if l.length = 0 then [1] else l) ∧ e = .returned (.slice A' (if l.length = 0 then [1] else l).length c') ∧ Below w.heap.size w w' := by
  have hc2 : w.cell? ⟨g, 2, none⟩ = some (.slice A l.length c) := (blk_cell hg 2).trans rfl
  have HG := aM hg
  have HA := aM hA
  clear hg hA
  by_cases hn : l.length = 0
  · have c3b0 : (((l.length : Int)) == 0) = true := by simp [hn]
    simp only [if_pos hn]
    go_enter Tryd.func109, Tryd.ntmps109
    go_wp2
    go_ret
    exact ⟨_, _, WA.lit1 w 1, rfl, below_alloc (Below.refl _ _) _⟩
  · have c3b0 : (((l.length : Int)) == 0) = false := by simpa using hn
    simp only [if_neg hn]
    go_enter Tryd.func109, Tryd.ntmps109
    go_wp2
    go_ret
    exact ⟨A, c, HA.out, rfl, Below.refl _ _⟩
set_option maxHeartbeats 800000 in
set_option maxRecDepth 100000 in
theorem big_NewInt.calls (k : Nat) (n : Int) (r : List Int) (w : World) (hn : 0 ≤ n) (h : big_of.f k n = some r) (hn2 : n < 9223372036854775808) :
    Calls Tryd.prog 70 #[.int .i64 n] w fun e w' => ∃ g, e = .returned (.pointer (some ⟨g, 0, none⟩)) ∧ w.heap.size ≤ g ∧ Below w.heap.size w w' ∧ ∃ A c, WA w' A c r ∧ w'.heap[g]? = some (.cells #[.bool false, .slice A r.length c] 121 (0, 0)) := by
  have c3b0 : decide (n < 0) = false := by simpa using hn
  have H := aM h
  clear h
  go_enter Tryd.func70, Tryd.ntmps70
  go_wp2_with (first | (go_at_call 103; refine (big_of.calls k n r _ H.out).mono ?_; rintro e w1 ⟨v, rfl, hv, hb⟩; obtain ⟨Ar, cr, rfl, hr⟩ := WA.of_R hv; clear hv; replace hr := aM hr; replace hb := aM hb))
  go_ret
  exact ⟨_, rfl, hb.out.size, below_alloc hb.out _, Ar, cr, hr.out.alloc _, blk_new _ _⟩
set_option maxHeartbeats 800000 in
set_option maxRecDepth 100000 in
theorem big_Int_Cmp.calls (k gx gy : Nat) (lx ly : List Int) (r : Int) (w : World) (hx : IntC w gx false lx) (hy : IntC w gy false ly) (h : big_compare.f k lx ly = some r) :
    Calls Tryd.prog 72 #[.pointer (some ⟨gx, 0, none⟩), .pointer (some ⟨gy, 0, none⟩)] w fun e w' => e = .returned (.int .i64 r) ∧ Drawn0 w w' := by
  obtain ⟨csx, tx, Ax, cx, hx1, hx2, hx3, hx4, hx5⟩ := hx; obtain ⟨csy, ty, Ay, cy, hy1, hy2, hy3, hy4, hy5⟩ := hy; (have hcx0 : w.cell? ⟨gx, 0, none⟩ = some (.bool false) := (blk_cell hx1 0).trans hx3); (have hcx1 : w.cell? ⟨gx, 1, none⟩ = some (.slice Ax lx.length cx) := (blk_cell hx1 1).trans hx4); (have hcy0 : w.cell? ⟨gy, 0, none⟩ = some (.bool false) := (blk_cell hy1 0).trans hy3); (have hcy1 : w.cell? ⟨gy, 1, none⟩ = some (.slice Ay ly.length cy) := (blk_cell hy1 1).trans hy4); have HX := aM hx5; have HY := aM hy5; clear hx5 hy5 hx1 hx2 hx3 hx4 hy1 hy2 hy3 hy4; (go_enter Tryd.func72, Tryd.ntmps72); go_wp2; (go_quiet (first | (go_at_call 105; refine (big_compare.calls k Ax cx lx Ay cy ly r _ (by repeat (first | exact HX.out.1 | refine Kd.C_drewN ?_ _)) HX.out.2.1 (by repeat (first | exact HY.out.1 | refine Kd.C_drewN ?_ _)) HY.out.2.1 h).mono ?_; rintro e w1 ⟨rfl, ⟨nd, rfl⟩⟩; (first | exact ⟨rfl, _, World.drewN_drewN _ _ _⟩ | exact ⟨rfl, _, Eq.trans (World.drewN_drewN _ _ _) (congrArg (World.drewN _) (Nat.add_assoc _ _ _))⟩)))); go_wp2; (go_quiet (fail)); go_wp2; (first | go_ret | go_ret2); (exact ⟨rfl, by repeat (first | exact Drawn0.refl _ | apply Drawn0.step)⟩)
set_option maxHeartbeats 800000 in
set_option maxRecDepth 100000 in
theorem big_Int_Add.calls (k g gx gy : Nat) (cs : Array Value) (t : TypeId) (lx ly r : List Int) (w : World) (hg : w.heap[g]? = some (.cells cs t (0, 0))) (ht : t ≠ 149) (hs : 2 ≤ cs.size) (hx : IntC w gx false lx) (hy : IntC w gy false ly) (h : plus2 k lx ly = some r) :
    Calls Tryd.prog 121 #[.pointer (some ⟨g, 0, none⟩), .pointer (some ⟨gx, 0, none⟩), .pointer (some ⟨gy, 0, none⟩)] w fun e w' => e = .returned (.pointer (some ⟨g, 0, none⟩)) ∧ PutI w w' g cs t false r := by
  obtain ⟨csx, tx, Ax, cx, hx1, hx2, hx3, hx4, hx5⟩ := hx; obtain ⟨csy, ty, Ay, cy, hy1, hy2, hy3, hy4, hy5⟩ := hy; (have hcx0 : w.cell? ⟨gx, 0, none⟩ = some (.bool false) := (blk_cell hx1 0).trans hx3); (have hcx1 : w.cell? ⟨gx, 1, none⟩ = some (.slice Ax lx.length cx) := (blk_cell hx1 1).trans hx4); (have hcy0 : w.cell? ⟨gy, 0, none⟩ = some (.bool false) := (blk_cell hy1 0).trans hy3); (have hcy1 : w.cell? ⟨gy, 1, none⟩ = some (.slice Ay ly.length cy) := (blk_cell hy1 1).trans hy4); have HG := aM hg; have HX := aM hx5; have HY := aM hy5; (have HX0 := aM (show ∀ w1, Below w.heap.size w w1 → w1.cell? ⟨gx, 0, none⟩ = some (.bool false) from fun w1 hb => (blk_cell (blk_below hx1 hb) 0).trans hx3)); clear hg hx5 hy5 hx1 hx2 hx3 hx4 hy1 hy2 hy3 hy4; (go_enter Tryd.func121, Tryd.ntmps121); go_wp2; (go_quiet (fail)); go_wp2
  go_region_with (first
    | (go_at_call 133; refine (plus2.calls k Ax cx lx Ay cy ly r _ (by repeat (first | exact HX.out.1 | refine Kd.C_drewN ?_ _)) HX.out.2.1 (by repeat (first | exact HY.out.1 | refine Kd.C_drewN ?_ _)) HY.out.2.1 h).mono ?_; rintro e w1 ⟨v, rfl, hv, hb⟩; replace hb : Below w.heap.size w w1 := ⟨hb.os, hb.tape, hb.output, hb.size, hb.block⟩; obtain ⟨Ar, cr, rfl, hr⟩ := WA.of_R hv; clear hv; have qx0 := HX0.out _ hb; replace hr := aM hr; replace hb := aM hb)
    | (go_at_call 108; refine (big_Int_set.calls g cs t _ Ar cr r _ (blk_below HG.out hb.out) hs).mono ?_; rintro e w2 ⟨rfl, hk, hz, he⟩; replace hk := aM hk; replace he := aM he; clear hz))
  (all_goals (clear hcx0 hcx1 hcy0 hcy1 HX0 qx0; go_wp2; go_ret; exact ⟨rfl, PutI.of_set HG.out ht hb.out hr.out hk.out he.out⟩))
end Go.Proofs.YtbanemecfobonaaDoor.B
namespace Go.Proofs.YtbanemecfobonaaDoor.B
open Go.RowKit Go.Proofs.YtbanemecfobonaaDoorW.PrintWords Go.Proofs.YtbanemecfobonaaDoorW.PrintLast Go.Proofs.YtbanemecfobonaaDoorW.PrintMore
set_option linter.unusedVariables false
set_option linter.unusedSimpArgs false
def DivOk (Div : List Int → List Int → Option (List Int × List Int)) : Prop :=
  ∀ (A0 A1 : Option Addr) (c0 c1 : Nat) (l0 l1 q r : List Int) (w : World), WA w A0 c0 l0 → WA w A1 c1 l1 → Div l0 l1 = some (q, r) →
    Calls Tryd.prog 132 #[.slice A0 l0.length c0, .slice A1 l1.length c1] w fun e w' => ∃ Aq cq Ar cr, e = .returned (.tuple #[.slice Aq q.length cq, .slice Ar r.length cr]) ∧ WA w' Aq cq q ∧ WA w' Ar cr r ∧ Below w.heap.size w w'
def divS (k : Nat) (a b : List Int) : Option (List Int × List Int) :=
  (big_compare.f k a b).bind fun c => if c < 0 then some ([], a) else (big_words_small.f a).bind fun x => if x.2 = true then (big_words_small.f b).bind fun y => if 0 ≤ x.1 ∧ x.1 < 18446744073709551616 ∧ 0 < y.1 ∧ y.1 < 18446744073709551616 then (big_of.f k (x.1 / y.1)).bind fun q => (big_of.f k (x.1 % y.1)).bind fun r => some (q, r) else none else none
set_option maxHeartbeats 800000 in
set_option maxRecDepth 100000 in
theorem divS_ok (k : Nat) : DivOk (divS k) := by
  (intro A0 A1 c0 c1 l0 l1 q r w h0 h1 h); (unfold divS at h); (obtain ⟨c, hc, h⟩ := oB h); have H0 := aM h0; have H1 := aM h1; have HC := aM hc; have H0c := aM h0.2.1; have H1c := aM h1.2.1; clear h0 h1 hc; by_cases hlt : c < 0
  · rw [if_pos hlt] at h; simp only [Option.some.injEq, Prod.mk.injEq] at h; obtain ⟨rfl, rfl⟩ := h; (have t1 : decide (c < 0) = true := dT hlt); clear hlt; (go_enter Tryd.func132, Tryd.ntmps132); (go_wp2_with (first | (go_at_call 105; refine (big_compare.calls k A0 c0 l0 A1 c1 l1 c _ (by repeat (first | exact H0.out.1 | refine Kd.C_drewN ?_ _)) H0.out.2.1 (by repeat (first | exact H1.out.1 | refine Kd.C_drewN ?_ _)) H1.out.2.1 HC.out).mono ?_; rintro e w1 ⟨rfl, ⟨nd, rfl⟩⟩))); (first | go_ret2 | go_ret); (exact ⟨none, 0, A0, c0, rfl, WA.nil _, H0.out.drewN _, pw_below_drewN (Below.refl _ _) _⟩)
  rw [if_neg hlt] at h; (have t1 : decide (c < 0) = false := dF hlt); clear hlt; (obtain ⟨⟨x, bx⟩, hx, h⟩ := oB h); (dsimp only at h); by_cases hbx : bx = true; rotate_left
  · rw [if_neg hbx] at h; (exact absurd h (by simp))
  subst hbx; rw [if_pos rfl] at h; (obtain ⟨⟨y, b_y⟩, hy, h⟩ := oB h); (dsimp only at h); by_cases hb : 0 ≤ x ∧ x < 18446744073709551616 ∧ 0 < y ∧ y < 18446744073709551616; rotate_left
  · rw [if_neg hb] at h; (exact absurd h (by simp))
  rw [if_pos hb] at h; obtain ⟨b1, b2, b3, b4⟩ := hb; (obtain ⟨q', hq, h⟩ := oB h); (obtain ⟨r', hr, h⟩ := oB h); simp only [Option.some.injEq, Prod.mk.injEq] at h; obtain ⟨rfl, rfl⟩ := h
  have e1 : IntKind.u64.wrap (x.tdiv y) = x / y := by
    rw [Int.tdiv_eq_ediv_of_nonneg b1]
    have : 0 ≤ x / y := Int.ediv_nonneg b1 z3
    have : x / y ≤ x := Int.ediv_le_self _ b1
    exact IntWalk.u64_in _ ⟨by omega, by omega⟩
  (have e2 : x.tmod y = x % y := Int.tmod_eq_emod_of_nonneg b1); have HX := aM hx; have HY := aM hy; have HQ := aM hq; have HR := aM hr; (have hy0 : (y == 0) = false := beq_eq_false_iff_ne.mpr z3); (have hy1 : ¬ y = 0 := by omega); have e1' := e1
  have e2' : IntKind.u64.wrap (x.tmod y) = x % y := by
    rw [e2]
    have : 0 ≤ x % y := Int.emod_nonneg _ z3
    have : x % y < y := Int.emod_lt_of_pos _ b3
    exact IntWalk.u64_in _ ⟨by omega, by omega⟩
  clear hx hy hq hr; (go_enter Tryd.func132, Tryd.ntmps132); (go_wp2_with (first | (go_at_call 105; refine (big_compare.calls k A0 c0 l0 A1 c1 l1 c _ (by repeat (first | exact H0.out.1 | refine Kd.C_drewN ?_ _)) H0.out.2.1 (by repeat (first | exact H1.out.1 | refine Kd.C_drewN ?_ _)) H1.out.2.1 HC.out).mono ?_; rintro e w1 ⟨rfl, ⟨nd, rfl⟩⟩) | (go_at_call 110; (with_reducible refine (big_words_small.calls A0 c0 l0 x true _ ?q1 H0c.out HX.out).mono ?_); (case q1 => exact by repeat (first | exact H0.out.1 | refine Kd.C_drewN ?_ _)); rintro e w1 ⟨rfl, ⟨nd1, rfl⟩⟩) | (go_at_call 110; (with_reducible refine (big_words_small.calls A1 c1 l1 y b_y _ ?q1 H1c.out HY.out).mono ?_); (case q1 => exact by repeat (first | exact H1.out.1 | refine Kd.C_drewN ?_ _)); rintro e w1 ⟨rfl, ⟨nd2, rfl⟩⟩)))
  have g1 : ∀ w, Calls Tryd.prog 103 #[.int .u64 (x / y)] w fun e w' => ∃ A c, e = .returned (.slice A q'.length c) ∧ WA w' A c q' ∧ Below w.heap.size w w' := fun w => (big_of.calls k (x / y) q' w HQ.out).mono fun e w' ⟨v, he, hv, hb⟩ => by
    obtain ⟨A, c, rfl, ha⟩ := WA.of_R hv
    exact ⟨A, c, he, ha, hb⟩
  have g2 : ∀ w, Calls Tryd.prog 103 #[.int .u64 (x % y)] w fun e w' => ∃ A c, e = .returned (.slice A r'.length c) ∧ WA w' A c r' ∧ Below w.heap.size w w' := fun w => (big_of.calls k (x % y) r' w HR.out).mono fun e w' ⟨v, he, hv, hb⟩ => by
    obtain ⟨A, c, rfl, ha⟩ := WA.of_R hv
    exact ⟨A, c, he, ha, hb⟩
  replace g1 := aM g1; replace g2 := aM g2; clear HX HY HQ HR; (go_region_with (first | (go_at_call 103; (with_reducible refine (g1.out _).mono ?_); rintro e w1 ⟨Aq, cq, rfl, ha1, hb1⟩; replace hb1 : Below w.heap.size w w1 := ⟨hb1.os, hb1.tape, hb1.output, hb1.size, hb1.block⟩; replace ha1 := aM ha1; replace hb1 := aM hb1) | (go_at_call 103; (with_reducible refine (g2.out _).mono ?_); rintro e w2 ⟨Ar, cr, rfl, ha2, hb2⟩; replace ha2 := aM ha2; replace hb2 := aM hb2))); (all_goals (go_wp2; (first | go_ret2 | go_ret); exact ⟨Aq, cq, Ar, cr, rfl, ha1.out.below hb2.out, ha2.out, below_step hb1.out hb2.out⟩))
set_option maxHeartbeats 800000 in
set_option maxRecDepth 100000 in
theorem big_Rat_Denom.calls (g : Nat) (v0 v1 : Value) (t : TypeId) (A : Option Addr) (c : Nat) (l : List Int) (w : World) (hg : w.heap[g]? = some (.cells #[v0, v1, .slice A l.length c] t (0, 0))) (hA : WA w A c l) :
    Calls Tryd.prog 73 #[.pointer (some ⟨g, 0, none⟩)] w fun e w' => ∃ g', e = .returned (.pointer (some ⟨g', 0, none⟩)) ∧ w.heap.size ≤ g' ∧ Below w.heap.size w w' ∧ ∃ A' c', WA w' A' c' (if l.length = 0 then [1] else l) ∧ w'.heap[g']? = some (.cells #[.bool false, .slice A' (if l.length = 0 then [1] else l).length c'] 121 (0, 0)) := by
  have HG := aM hg; have HA := aM hA; clear hg hA; (generalize hL : (if l.length = 0 then [1] else l) = L); replace hL := aM hL; (go_enter Tryd.func73, Tryd.ntmps73); (go_wp2_with (first | (go_at_call 109; refine (big_Rat_below.calls g v0 v1 t A c l _ (by exact blk_alloc HG.out _) (HA.out.alloc _)).mono ?_; rintro e w1 ⟨A', c', hw, rfl, hb⟩; rw [hL.out] at hw ⊢; replace hw := aM hw; replace hb := aM hb) | (go_at_call 108; refine (big_Int_set.calls w.heap.size #[.bool false, .slice none 0 0] 121 _ A' c' L _ (blk_below (blk_new w _) hb.out) (by simp)).mono ?_; rintro e w2 ⟨rfl, hk, hz, he⟩; replace hk := aM hk; replace he := aM he))); go_ret; (exact ⟨_, rfl, Nat.le_refl _, hk.out.below (below_step (below_alloc (Below.refl _ _) _) hb.out) (Nat.le_refl _), A', c', hw.out.keep (blk_below (blk_new w _) hb.out) z10 hk.out.2, he.out.trans (by simp)⟩)
def gcdL (x y : Int) : Option Int := if 0 ≤ x ∧ x < 18446744073709551616 ∧ 0 ≤ y ∧ y < 18446744073709551616 then some (Int.gcd x y : Int) else none
def commonF (Div : List Int → List Int → Option (List Int × List Int)) (k : Nat) : Nat → List Int → List Int → Option (List Int)
  | 0, _, _ => none
  | n + 1, a, b => if b.length = 0 then some a else (big_words_small.f a).bind fun x => if x.2 = true then (big_words_small.f b).bind fun y => if y.2 = true then (gcdL x.1 y.1).bind fun g => big_of.f k g else (Div a b).bind fun qr => commonF Div k n b qr.2 else (Div a b).bind fun qr => commonF Div k n b qr.2
theorem gcd_step (x y : Int) (hx : 0 ≤ x) (hy : 0 ≤ y) : Int.gcd y (x % y) = Int.gcd x y := by
  obtain ⟨m, rfl⟩ := Int.eq_ofNat_of_zero_le hx
  obtain ⟨n, rfl⟩ := Int.eq_ofNat_of_zero_le hy
  rw [← Int.natCast_emod, Int.gcd_natCast_natCast, Int.gcd_natCast_natCast, Nat.gcd_comm m n, Nat.gcd_rec n m, Nat.gcd_comm]
set_option maxHeartbeats 800000 in
set_option maxRecDepth 100000 in
theorem big_common.calls (Div : List Int → List Int → Option (List Int × List Int)) (hD : DivOk Div) (k n : Nat) (A0 A1 : Option Addr) (c0 c1 : Nat) (l0 l1 r : List Int) (w : World) (h0 : WA w A0 c0 l0) (h1 : WA w A1 c1 l1) (h : commonF Div k n l0 l1 = some r) :
    Calls Tryd.prog 131 #[.slice A0 l0.length c0, .slice A1 l1.length c1] w fun e w' => ∃ A c, e = .returned (.slice A r.length c) ∧ WA w' A c r ∧ Below w.heap.size w w' := by
  have H0 := aM h0; have H1 := aM h1; have H' := aM h; clear h h0 h1; (go_enter Tryd.func131, Tryd.ntmps131); go_wp2; (go_loopg [0, 1] n (fun gq v0 v1 w' => ∃ (a b : List Int) (Aa Ab : Option Addr) (ca cb : Nat), v0 = .slice Aa a.length ca ∧ v1 = .slice Ab b.length cb ∧ Aside0 (commonF Div k gq a b = some r) ∧ Aside0 (WA w' Aa ca a) ∧ Aside0 (WA w' Ab cb b) ∧ Aside0 (Below w.heap.size w w') ∧ Aside0 (gq ≤ n))); (case atStart => exact ⟨l0, l1, A0, A1, c0, c1, rfl, rfl, H', H0, H1, ⟨Below.refl _ _⟩, ⟨Nat.le_refl _⟩⟩)
  case round =>
   obtain ⟨a, b, Aa, Ab, ca, cb, rfl, rfl, HA, HWa, HWb, HB, HK⟩ := hrel
   cases gk with
   | zero => exact absurd HA.out (by simp [commonF])
   | succ k1 =>
    have H := HA.out; clear HA H' H0 H1; simp only [commonF] at H; by_cases hb0 : b.length = 0
    · rw [if_pos hb0] at H; (obtain rfl := sI H); (have t0 : decide (0 < (b.length : Int)) = false := dF z3); (have t1 : decide (0 < b.length) = false := dF z3); go_wp2; go_ret; (exact ⟨Aa, ca, rfl, HWa.out, HB.out⟩)
    rw [if_neg hb0] at H; (have t0 : decide (0 < (b.length : Int)) = true := dT z3); (have t1 : decide (0 < b.length) = true := dT z3); clear hb0; (obtain ⟨⟨x, bx⟩, hx, H⟩ := oB H); (dsimp only at H); have HX := aM hx; have HWar := aM HWa.out.1; have HWac := aM HWa.out.2.1; have HWbr := aM HWb.out.1; have HWbc := aM HWb.out.2.1; clear hx
    have step : ∀ (H : ((Div a b).bind fun qr => commonF Div k k1 b qr.2) = some r), ∃ q r', Div a b = some (q, r') ∧ commonF Div k k1 b r' = some r := fun H => by
      obtain ⟨⟨q, r'⟩, h1, h2⟩ := oB H
      exact ⟨q, r', h1, h2⟩
    replace step := aM step; by_cases hbx : bx = true; rotate_left
    · rw [if_neg hbx] at H; (replace hbx : bx = false := by simpa using hbx); subst hbx; (obtain ⟨q, r', hdiv, hrec⟩ := step.out H); (have HD := aM (hD Aa Ab ca cb a b q r')); replace hdiv := aM hdiv; replace hrec := aM hrec; clear H step; (go_wp2_with (first | (go_at_call 110; (with_reducible refine (big_words_small.calls Aa ca a x false _ ?q1 HWac.out HX.out).mono ?_); (case q1 => exact by repeat (first | exact HWar.out | refine Kd.C_drewN ?_ _)); rintro e w1 ⟨rfl, ⟨nd1, rfl⟩⟩) | (go_at_call 132; (with_reducible refine (HD.out _ ?q1 ?q2 hdiv.out).mono ?_); (case q1 => exact HWa.out.drewN _); (case q2 => exact HWb.out.drewN _); rintro e w1 ⟨Aq, cq, Ar, cr, rfl, hq, hr, hb⟩; replace hb : Below wr.heap.size wr w1 := ⟨hb.os, hb.tape, hb.output, hb.size, hb.block⟩; replace hb := aM hb; replace hr := aM hr; clear hq))); (go_roundg k1); (case measure => have := HK.out; omega); (case rel => exact ⟨b, r', Ab, Ar, cb, cr, rfl, rfl, hrec, ⟨HWb.out.below hb.out⟩, hr, ⟨below_step HB.out hb.out⟩, ⟨by have := HK.out; omega⟩⟩)
    subst hbx; rw [if_pos rfl] at H; (obtain ⟨⟨y, b_y⟩, hy, H⟩ := oB H); (dsimp only at H); have HY := aM hy; clear hy; by_cases hby : b_y = true; rotate_left
    · rw [if_neg hby] at H; (replace hby : b_y = false := by simpa using hby); subst hby; (obtain ⟨q, r', hdiv, hrec⟩ := step.out H); (have HD := aM (hD Aa Ab ca cb a b q r')); replace hdiv := aM hdiv; replace hrec := aM hrec; clear H step; (go_wp2_with (first | (go_at_call 110; (with_reducible refine (big_words_small.calls Aa ca a x true _ ?q1 HWac.out HX.out).mono ?_); (case q1 => exact by repeat (first | exact HWar.out | refine Kd.C_drewN ?_ _)); rintro e w1 ⟨rfl, ⟨nd1, rfl⟩⟩) | (go_at_call 110; (with_reducible refine (big_words_small.calls Ab cb b y false _ ?q1 HWbc.out HY.out).mono ?_); (case q1 => exact by repeat (first | exact HWbr.out | refine Kd.C_drewN ?_ _)); rintro e w1 ⟨rfl, ⟨nd2, rfl⟩⟩) | (go_at_call 132; (with_reducible refine (HD.out _ ?q1 ?q2 hdiv.out).mono ?_); (case q1 => exact HWa.out.drewN _); (case q2 => exact HWb.out.drewN _); rintro e w1 ⟨Aq, cq, Ar, cr, rfl, hq, hr, hb⟩; replace hb : Below wr.heap.size wr w1 := ⟨hb.os, hb.tape, hb.output, hb.size, hb.block⟩; replace hb := aM hb; replace hr := aM hr; clear hq))); (go_roundg k1); (case measure => have := HK.out; omega); (case rel => exact ⟨b, r', Ab, Ar, cb, cr, rfl, rfl, hrec, ⟨HWb.out.below hb.out⟩, hr, ⟨below_step HB.out hb.out⟩, ⟨by have := HK.out; omega⟩⟩)
    subst hby; rw [if_pos rfl] at H; (obtain ⟨gg, hg, H⟩ := oB H); have HG := aM hg; have HO := aM H; clear hg H step; (go_wp2_with (first | (go_at_call 110; (with_reducible refine (big_words_small.calls Aa ca a x true _ ?q1 HWac.out HX.out).mono ?_); (case q1 => exact by repeat (first | exact HWar.out | refine Kd.C_drewN ?_ _)); rintro e w1 ⟨rfl, ⟨nd1, rfl⟩⟩) | (go_at_call 110; (with_reducible refine (big_words_small.calls Ab cb b y true _ ?q1 HWbc.out HY.out).mono ?_); (case q1 => exact by repeat (first | exact HWbr.out | refine Kd.C_drewN ?_ _)); rintro e w1 ⟨rfl, ⟨nd2, rfl⟩⟩)))
    have hgg : (0 ≤ x ∧ x < 18446744073709551616 ∧ 0 ≤ y ∧ y < 18446744073709551616) ∧ gg = (Int.gcd x y : Int) := by
      have hh := HG.out
      unfold gcdL at hh
      split at hh
      · rename_i hc
        exact ⟨hc, (sI hh).symm⟩
      · exact absurd hh (by simp)
    obtain ⟨⟨x0, x1, y0, y1⟩, hge⟩ := hgg; replace hge := aM hge; clear HG; (go_loopg [5, 7] y.toNat (fun gq v5 v7 w' => ∃ (x2 y2 : Int), v5 = .int .u64 x2 ∧ v7 = .int .u64 y2 ∧ Aside0 (0 ≤ x2 ∧ x2 < 18446744073709551616 ∧ 0 ≤ y2 ∧ y2 < 18446744073709551616) ∧ Aside0 (Int.gcd x2 y2 = Int.gcd x y) ∧ Aside0 (y2.toNat ≤ gq) ∧ Aside0 (Below w.heap.size w w'))); (case atStart => exact ⟨x, y, rfl, rfl, ⟨⟨x0, x1, y0, y1⟩⟩, ⟨rfl⟩, ⟨Nat.le_refl _⟩, ⟨by repeat (first | exact HB.out | apply pw_below_drewN)⟩⟩)
    case round =>
     obtain ⟨x2, y2, rfl, rfl, HB2, HG2, HM2, HBw⟩ := hrel; obtain ⟨q0, q1, q2, q3⟩ := HB2.out; by_cases hy2 : y2 = 0
     · (have t3 : (!(y2 == 0)) = false := by rw [hy2]; rfl); (have t4 : (y2 != 0) = false := by rw [hy2]; rfl)
       have hxg : x2 = gg := by
         rw [hge.out, ← HG2.out, hy2, Int.gcd_zero_right]
         omega
       subst hxg; subst hy2; (go_wp2_with (first | (go_at_call 103; refine (big_of.calls k x2 r _ HO.out).mono ?_; rintro e w1 ⟨v, rfl, hv, hb⟩; obtain ⟨Ar, cr, rfl, hr⟩ := WA.of_R hv; clear hv; replace hr := aM hr; replace hb := aM hb))); (first | go_end0 | ((try simp only [Exit.inBlock, Exit.then]); go_ret)); (exact ⟨Ar, cr, rfl, hr.out, below_step HBw.out hb.out⟩)
     (have t3 : (!(y2 == 0)) = true := by simp [hy2]); (have t4 : (y2 != 0) = true := by simp [hy2]); (have t5 : (y2 == 0) = false := by simp [hy2]); (have e2 : x2.tmod y2 = x2 % y2 := Int.tmod_eq_emod_of_nonneg q0); (have z1 : 0 ≤ x2 % y2 := Int.emod_nonneg _ hy2); (have z2 : x2 % y2 < y2 := Int.emod_lt_of_pos _ z3)
     have e3 : IntKind.u64.wrap (x2.tmod y2) = x2 % y2 := by
       rw [e2]
       exact IntWalk.u64_in _ ⟨by omega, by omega⟩
     (have ng : Int.gcd y2 (x2 % y2) = Int.gcd x2 y2 := gcd_step x2 y2 q0 q2); replace ng := aM ng; go_wp2; (go_quiet (fail)); go_wp2
     cases gk with
     | zero => exact absurd HM2.out z3
     | succ k2 =>
     (go_roundg k2); (case measure => omega); (case rel => exact ⟨y2, x2 % y2, rfl, rfl, ⟨⟨by omega, by omega, by omega, by omega⟩⟩, ⟨ng.out.trans HG2.out⟩, ⟨by have := HM2.out; omega⟩, ⟨by repeat (first | exact HBw.out | apply pw_below_drewN | apply below_drew1)⟩⟩)
end Go.Proofs.YtbanemecfobonaaDoor.B
namespace Go.Proofs.YtbanemecfobonaaDoor.B
open Go.RowKit Go.Proofs.YtbanemecfobonaaDoorW.PrintWords Go.Proofs.YtbanemecfobonaaDoorW.PrintLast Go.Proofs.YtbanemecfobonaaDoorW.PrintMore
set_option linter.unusedVariables false
set_option linter.unusedSimpArgs false
def RatB (w : World) (g : Nat) (l d : List Int) : Prop :=
  ∃ A c A' c', w.heap[g]? = some (.cells #[.bool false, .slice A l.length c, .slice A' d.length c'] 123 (0, 0)) ∧ WA w A c l ∧ WA w A' c' d
section
variable {w w' : World} {g g' : Nat} {l d : List Int}
theorem RatB.below (h : RatB w g l d) (hb : Below w.heap.size w w') : RatB w' g l d := by
  obtain ⟨A, c, A', c', h1, h2, h3⟩ := h
  exact ⟨A, c, A', c', blk_below h1 hb, h2.below hb, h3.below hb⟩
theorem RatB.num (h : RatB w g l d) : IntC w g false l := by
  obtain ⟨A, c, A', c', h1, h2, h3⟩ := h
  exact ⟨_, _, A, c, h1, by decide, rfl, rfl, h2⟩
end
def ratSet (Div : List Int → List Int → Option (List Int × List Int)) (k n : Nat) (num den : List Int) : Option (List Int × List Int) :=
  (commonF Div k n num den).bind fun g => (big_compare.f k g [1]).bind fun c => if c > 0 then (Div num g).bind fun q1 => (Div den g).bind fun q2 => some (q1.1, q2.1) else some (num, den)
set_option maxHeartbeats 800000 in
set_option maxRecDepth 100000 in
theorem big_Rat_set.calls (Div : List Int → List Int → Option (List Int × List Int)) (hD : DivOk Div) (k n g : Nat) (v0 v1 v2 : Value) (A0 A1 : Option Addr) (c0 c1 : Nat) (l0 l1 r1 r2 : List Int) (w : World) (hg : w.heap[g]? = some (.cells #[v0, v1, v2] 123 (0, 0))) (h0 : WA w A0 c0 l0) (h1 : WA w A1 c1 l1) (h : ratSet Div k n l0 l1 = some (r1, r2)) :
    Calls Tryd.prog 120 #[.pointer (some ⟨g, 0, none⟩), .bool false, .slice A0 l0.length c0, .slice A1 l1.length c1] w fun e w' => e = .returned (.pointer (some ⟨g, 0, none⟩)) ∧ Only w w' g ∧ RatB w' g r1 r2 := by
  (obtain ⟨gc, hgc, h⟩ := oB h); (obtain ⟨c, hc, h⟩ := oB h); have HG := aM hg; have H0 := aM h0; have H1 := aM h1; (have HC := aM (fun w h0 h1 => big_common.calls Div hD k n A0 A1 c0 c1 l0 l1 gc w h0 h1 hgc)); by_cases hlt : c > 0; rotate_left
  · rw [if_neg hlt] at h; simp only [Option.some.injEq, Prod.mk.injEq] at h; obtain ⟨rfl, rfl⟩ := h; (have t1 : decide (0 < c) = false := dF hlt)
    have HC2 : Aside0 (∀ (Ag : Option Addr) (cg : Nat) (w1 : World), WA w1 Ag cg gc → Calls Tryd.prog 105 #[.slice Ag gc.length cg, .slice (some ⟨w1.heap.size, 0, none⟩) 1 1] (w1.alloc (.cells #[.int .u32 1] 149)) fun e w' => e = .returned (.int .i64 c) ∧ Drawn0 (w1.alloc (.cells #[.int .u32 1] 149)) w') :=
      ⟨fun Ag cg w1 ha => big_compare.calls k Ag cg gc (some ⟨w1.heap.size, 0, none⟩) 1 [1] c (w1.alloc (.cells #[.int .u32 1] 149)) (ha.alloc _).1 (ha.alloc (.cells #[.int .u32 1] 149)).2.1 (WA.lit1 w1 1).1 (WA.lit1 w1 1).2.1 hc⟩
    clear hg h0 h1 hc hlt; (go_enter Tryd.func120, Tryd.ntmps120); (go_wp2_with (first | (go_at_call 131; refine (HC.out _ H0.out H1.out).mono ?_; rintro e w1 ⟨Ag, cg, rfl, hga, hb1⟩; replace hga := aM hga; replace hb1 := aM hb1) | (go_at_call 105; (with_reducible refine (HC2.out Ag cg w1 hga.out).mono ?_); rintro e w4 ⟨rfl, ⟨nd, hw2⟩⟩; replace hb1 := aM (pw_below_drewN (below_alloc hb1.out (.cells #[.int .u32 1] 149)) nd); clear hga; rw [← hw2] at hb1; clear hw2) | (go_at_call 108; refine (big_Int_set.calls g #[v0, v1, v2] 123 false A0 c0 l0 w4 (blk_below HG.out hb1.out) (by simp)).mono ?_; rintro e w5 ⟨rfl, hk, hz, he⟩; replace hk := aM hk; have hfz := blk_frozen he 2; have hcz : w5.cell? ⟨g, 2, none⟩ = some v2 := (blk_cell he 2).trans (by simp); replace he := aM he; clear hz))); go_ret; (exact ⟨rfl, ((Only.of_below hb1.out g).trans hk.out).set_ 2 _, A0, c0, A1, c1, (blk_set he.out 2 _).trans (by simp), ((H0.out.below hb1.out).keep (blk_below HG.out hb1.out) z10 hk.out.2).put he.out z10 2 _, ((H1.out.below hb1.out).keep (blk_below HG.out hb1.out) z10 hk.out.2).put he.out z10 2 _⟩)
  rw [if_pos hlt] at h; (obtain ⟨⟨q1, s1⟩, hd1, h⟩ := oB h); (obtain ⟨⟨q2, s2⟩, hd2, h⟩ := oB h); simp only [Option.some.injEq, Prod.mk.injEq] at h; obtain ⟨rfl, rfl⟩ := h; (have t1 : decide (0 < c) = true := dT hlt)
  have HC2 : Aside0 (∀ (Ag : Option Addr) (cg : Nat) (w1 : World), WA w1 Ag cg gc → Calls Tryd.prog 105 #[.slice Ag gc.length cg, .slice (some ⟨w1.heap.size, 0, none⟩) 1 1] (w1.alloc (.cells #[.int .u32 1] 149)) fun e w' => e = .returned (.int .i64 c) ∧ Drawn0 (w1.alloc (.cells #[.int .u32 1] 149)) w') :=
    ⟨fun Ag cg w1 ha => big_compare.calls k Ag cg gc (some ⟨w1.heap.size, 0, none⟩) 1 [1] c (w1.alloc (.cells #[.int .u32 1] 149)) (ha.alloc _).1 (ha.alloc (.cells #[.int .u32 1] 149)).2.1 (WA.lit1 w1 1).1 (WA.lit1 w1 1).2.1 hc⟩
  (have HA := aM (fun (Ag : Option Addr) (cg : Nat) w h0 h1 => hD A0 Ag c0 cg l0 gc q1 s1 w h0 h1)); (have HB := aM (fun (Ag : Option Addr) (cg : Nat) w h0 h1 => hD A1 Ag c1 cg l1 gc q2 s2 w h0 h1)); have HD1 := aM hd1; have HD2 := aM hd2; clear hg h0 h1 hc hlt hd1 hd2; (go_enter Tryd.func120, Tryd.ntmps120); (go_wp2_with (first | (go_at_call 131; refine (HC.out _ H0.out H1.out).mono ?_; rintro e w1 ⟨Ag, cg, rfl, hga, hb1⟩; replace hga := aM hga; replace hb1 := aM hb1) | (go_at_call 105; (with_reducible refine (HC2.out Ag cg w1 hga.out).mono ?_); rintro e w2 ⟨rfl, ⟨nd, hw2⟩⟩; replace hga := aM ((hga.out.alloc (.cells #[.int .u32 1] 149)).drewN nd); replace hb1 := aM (pw_below_drewN (below_alloc hb1.out (.cells #[.int .u32 1] 149)) nd); rw [← hw2] at hga hb1; clear hw2) | (go_at_call 132; (with_reducible refine (HA.out Ag cg _ ?q1 ?q2 HD1.out).mono ?_); (case q1 => exact H0.out.below hb1.out); (case q2 => exact hga.out); rintro e w3 ⟨Aq, cq, Ar, cr, rfl, hq1, hr, hb3⟩; replace hq1 := aM hq1; replace hga := aM (hga.out.below hb3); replace hb1 := aM (below_step hb1.out hb3); clear hr hb3) | (go_at_call 132; (with_reducible refine (HB.out Ag cg _ ?q1 ?q2 HD2.out).mono ?_); (case q1 => exact H1.out.below hb1.out); (case q2 => exact hga.out); rintro e w4 ⟨Aq2, cq2, Ar2, cr2, rfl, hq2, hr, hb3⟩; replace hq1 := aM (hq1.out.below hb3); replace hq2 := aM hq2; replace hb1 := aM (below_step hb1.out hb3); clear hr hb3 hga) | (go_at_call 108; refine (big_Int_set.calls g #[v0, v1, v2] 123 false Aq cq q1 w4 (blk_below HG.out hb1.out) (by simp)).mono ?_; rintro e w5 ⟨rfl, hk, hz, he⟩; replace hk := aM hk; have hfz := blk_frozen he 2; have hcz : w5.cell? ⟨g, 2, none⟩ = some v2 := (blk_cell he 2).trans (by simp); replace he := aM he; clear hz)))
  go_ret; (exact ⟨rfl, ((Only.of_below hb1.out g).trans hk.out).set_ 2 _, Aq, cq, Aq2, cq2, (blk_set he.out 2 _).trans (by simp), (hq1.out.keep (blk_below HG.out hb1.out) z10 hk.out.2).put he.out z10 2 _, (hq2.out.keep (blk_below HG.out hb1.out) z10 hk.out.2).put he.out z10 2 _⟩)
set_option maxHeartbeats 800000 in
set_option maxRecDepth 100000 in
theorem big_Rat_SetFrac.calls (Div : List Int → List Int → Option (List Int × List Int)) (hD : DivOk Div) (k n g ga gb : Nat) (v0 v1 v2 : Value) (la lb r1 r2 : List Int) (w : World) (hg : w.heap[g]? = some (.cells #[v0, v1, v2] 123 (0, 0))) (ha : IntC w ga false la) (hb : IntC w gb false lb) (h : ratSet Div k n la lb = some (r1, r2)) :
    Calls Tryd.prog 96 #[.pointer (some ⟨g, 0, none⟩), .pointer (some ⟨ga, 0, none⟩), .pointer (some ⟨gb, 0, none⟩)] w fun e w' => e = .returned (.pointer (some ⟨g, 0, none⟩)) ∧ Only w w' g ∧ RatB w' g r1 r2 := by
  obtain ⟨csx, tx, Ax, cx, hx1, hx2, hx3, hx4, hx5⟩ := ha; obtain ⟨csy, ty, Ay, cy, hy1, hy2, hy3, hy4, hy5⟩ := hb; (have hcx0 : w.cell? ⟨ga, 0, none⟩ = some (.bool false) := (blk_cell hx1 0).trans hx3); (have hcx1 : w.cell? ⟨ga, 1, none⟩ = some (.slice Ax la.length cx) := (blk_cell hx1 1).trans hx4); (have hcy0 : w.cell? ⟨gb, 0, none⟩ = some (.bool false) := (blk_cell hy1 0).trans hy3); (have hcy1 : w.cell? ⟨gb, 1, none⟩ = some (.slice Ay lb.length cy) := (blk_cell hy1 1).trans hy4)
  have HC : Aside0 (∀ m, Calls Tryd.prog 120 #[.pointer (some ⟨g, 0, none⟩), .bool false, .slice Ax la.length cx, .slice Ay lb.length cy] (w.drewN m) fun e w' => e = .returned (.pointer (some ⟨g, 0, none⟩)) ∧ Only w w' g ∧ RatB w' g r1 r2) :=
    ⟨fun m => (big_Rat_set.calls Div hD k n g v0 v1 v2 Ax Ay cx cy la lb r1 r2 (w.drewN m) hg (hx5.drewN m) (hy5.drewN m) h).mono fun e w' hh => hh⟩
  clear hg hx5 hy5 hx1 hx2 hx3 hx4 hy1 hy2 hy3 hy4 h; (go_enter Tryd.func96, Tryd.ntmps96); go_wp2; (go_still_tail 18, z9); (change wpList _ _ _ _ _ (w.drewN 1)); (go_wp2_with (first | (go_at_call 120; refine (HC.out 1).mono ?_; rintro e w1 ⟨rfl, h1, h2⟩; replace h1 := aM h1; replace h2 := aM h2))); go_ret; (exact ⟨rfl, h1.out, h2.out⟩)
end Go.Proofs.YtbanemecfobonaaDoor.B
