/- Written by a program (lite.py) from my texts. -/
import Derived.Test.YtbanemecfobonaaDoorX10aw
namespace Go.Proofs.YtbanemecfobonaaDoor.B
open Go.RowKit Go.Proofs.YtbanemecfobonaaDoorW.PrintWords Go.Proofs.YtbanemecfobonaaDoorW.PrintLast Go.Proofs.YtbanemecfobonaaDoorW.PrintMore
set_option linter.unusedVariables false
set_option linter.unusedSimpArgs false
def winO (l : List S55) (left : List Int) (x : Int) : Nat → List S55
  | 0 => []
  | n + 1 => if rd left (n : Int) = x then winO l left x n else winO l left x n ++ [rd_T55 l (rd left (n : Int))]
theorem winO_len (l : List S55) (left : List Int) (x : Int) : ∀ n, (winO l left x n).length ≤ n
  | 0 => Nat.le_refl _
  | n + 1 => by
    have := winO_len l left x n
    simp only [winO]
    split
    · omega
    · rw [List.length_append, List.length_singleton]; omega
theorem winO_ok (l : List S55) (left : List Int) (x : Int) (m : Nat) (h : ∀ q, q < m → okM (rd_T55 l (rd left (q : Int))) = true) : ∀ n, n ≤ m → ∀ k, k < (winO l left x n).length → okM (rd_T55 (winO l left x n) (k : Int)) = true
  | 0, _, k, hk => by simp [winO] at hk
  | n + 1, hn, k, hk => by
    have ih := winO_ok l left x m h n z3
    simp only [winO] at hk ⊢
    split at hk
    · rename_i hc
      rw [if_pos hc]; exact ih k hk
    · rename_i hc
      rw [if_neg hc, rd_T55_snoc]
      split
      · exact h n z3
      · exact ih k (by rw [List.length_append, List.length_singleton] at hk; omega)
def lastB (l : List S55) (lims left : List Int) (lose : List S55) (i : Nat) : Bool :=
  (delayD (rd_T55 l (i : Int)) (winO l left (i : Int) left.length) (maxTo lose lose.length)).2 && decide ((delayD (rd_T55 l (i : Int)) (winO l left (i : Int) left.length) (maxTo lose lose.length)).1 ≤ rd lims (i : Int))
set_option maxHeartbeats 2000000 in
set_option maxRecDepth 100000 in
theorem f83_any (left lims : List Int) (l lose : List S55) (AL Al Ao Am : Option Addr) (cL cl co cm gL gl go gm i : Nat) (w : World)
    (hgL : w.cell? ⟨gL, 0, none⟩ = some (.slice AL left.length cL)) (hL : Kd.C (Kd.int .i64) w AL left.length left)
    (hgl : w.cell? ⟨gl, 0, none⟩ = some (.slice Al l.length cl)) (hl : Kd.C k55 w Al l.length l)
    (hgo : w.cell? ⟨go, 0, none⟩ = some (.slice Ao lose.length co)) (ho : Kd.C k55 w Ao lose.length lose) (hco : lose.length ≤ co)
    (hgm : w.cell? ⟨gm, 0, none⟩ = some (.slice Am lims.length cm)) (hm : Kd.C (Kd.int .i64) w Am lims.length lims)
    (hok : OkL l) (hlo : ∀ q, q < lose.length → okM (rd_T55 lose (q : Int)) = true) (hlo8 : lose.length ≤ 8) (hle8 : left.length ≤ 8)
    (hr : ∀ q : Nat, q < left.length → 0 ≤ rd left (q : Int) ∧ rd left (q : Int) < (l.length : Int)) (hi : i < l.length) (him : i < lims.length) :
    Calls Tryd.prog 83 #[.int .i64 (i : Int), .pointer (some ⟨gL, 0, none⟩), .pointer (some ⟨gl, 0, none⟩), .pointer (some ⟨go, 0, none⟩), .pointer (some ⟨gm, 0, none⟩)] w fun e w' => e = .returned (.bool (lastB l lims left lose i)) ∧ Below w.heap.size w w' := by
  (obtain ⟨res, hres⟩ : ∃ b, b = lastB l lims left lose i := ⟨_, rfl⟩); rw [← hres]; have HRS := aM hres; clear hres; have hu55 := Tryd.underlying55; have HLC := aM hL; have HC := aM hl; have HO := aM ho; have HM := aM hm; have HR := aM hr; have HOK := aM hok; have HLO := aM hlo; have HGL := aM hgL; have Hgl := aM hgl; have HGO := aM hgo; have HGM := aM hgm; (have HB0 := aM (Below.refl w.heap.size w)); (have hlen : (left.length : Int) ≤ 9223372036854775807 := by omega); have hllen := hl.2.1; (have R0 : Aside0 (Kd.R k55 55 w w.heap.size (fun _ => True) (.slice none 0 0) ([] : List S55)) := ⟨Kd.R_nil _ _ _ _ _⟩); clear hL hl ho hm hr hok hlo hgl hgo hgm; (go_enter Tryd.func83, Tryd.ntmps83); go_wp2; clear hgL; (go_loopg [7, 14] left.length (fun gk v7 v14 w' => ∃ n : Nat, v14 = .int .i64 (n : Int) ∧ n ≤ left.length ∧ Aside0 (gk = left.length - n) ∧ Aside0 (Kd.R k55 55 w' w.heap.size (fun _ => True) v7 (winO l left (i : Int) n)) ∧ Aside0 (Below w.heap.size w w'))); (case atStart => exact ⟨0, rfl, by omega, ⟨rfl⟩, R0, HB0⟩)
  case round =>
   clear R0 HB0; obtain ⟨n, rfl, hn, HK, R7, HB⟩ := hrel; by_cases hlt : n < left.length
   · (obtain ⟨ad, e0, hx⟩ := Kd.at_int (Kd.C_below HLC.out HB.out) (n : Int) z3 z3); cases e0; rw [Int.toNat_natCast] at hx; (obtain ⟨q0, q1⟩ := HR.out n hlt); (have HWN : Aside0 (winO l left (i : Int) (n + 1) = if rd left (n : Int) = (i : Int) then winO l left (i : Int) n else winO l left (i : Int) n ++ [rd_T55 l (rd left (n : Int))]) := ⟨rfl⟩); (have hwl := winO_len l left (i : Int) n); (obtain ⟨ad2, e0, hy0, hy1, hy2, hy3⟩ := at_T55 (Kd.C_below HC.out HB.out) (rd left (n : Int)) q0 q1); cases e0; (have hgl := keepc HB.out Hgl.out); (generalize rd left (n : Int) = o at *); (obtain ⟨p, rfl⟩ : ∃ p : Nat, o = (p : Int) := Int.eq_ofNat_of_zero_le q0); rw [Int.toNat_natCast] at hy0 hy1 hy2 hy3; (generalize rd_T55 l (p : Int) = x at HWN hy0 hy1 hy2 hy3); (generalize winO l left (i : Int) n = ws at HWN R7 hwl); by_cases c : (p : Int) = (i : Int)
     · (have t1 : ((p : Int) != (i : Int)) = false := by simpa using c); rw [if_pos c] at HWN; clear c; go_wp2; (go_roundg (left.length - (n + 1))); (case measure => have := HK.out; omega); (case rel => exact ⟨n + 1, by go_num, by omega, ⟨rfl⟩, ⟨by rw [HWN.out]; exact R7.out⟩, HB⟩)
     (have t1 : ((p : Int) != (i : Int)) = true := by simpa using c); rw [if_neg c] at HWN; clear c
     go_wp2_with (first
     | ((with_reducible refine gate_builtin (b := .append) (xs := #[.tmp 21, .tmp 26]) rfl ?_); at_builtin; refine Kd.R_append k55 (w0 := w) w.heap.size rfl (.tmp 21) (.tmp 26) 46 55 (.agg #[(.int .i64 0), (.int .i64 0), (.int .i64 0), (.int .i64 0)]) 32 rfl Tryd.underlying46 info55 rfl z10 z3 u7 ws x [.int .i64 x.f0, .int .i64 x.f1, .int .i64 x.f2, .int .i64 x.f3] (fun _ => True) (fun _ => False) rfl rfl ?aP (fun _ hk => hk.elim) ?aF ?aO ?aB ?aS ?aL ?_; (case aP => exact k55_mkM _ _ _ x); (case aF => exact (fun k hk => trivial)); (case aO => exact R7.out); (case aB => exact HB.out); (case aS => exact HB.out.size); (case aL => omega); intro v1 w4 ho hb hg hat; have N1 := aM ho; have NB := aM hb; clear ho hb hg hat))
     (go_roundg (left.length - (n + 1))); (case measure => have := HK.out; omega); (case rel => exact ⟨n + 1, by go_num, by omega, ⟨rfl⟩, ⟨by rw [HWN.out]; exact N1.out⟩, NB⟩)
   (obtain rfl : n = left.length := by omega); (obtain ⟨A7, c7, rfl, h7, hr7⟩ := Kd.R_reads R7.out); (have W7 := aM (⟨hr7, h7⟩ : _ ∧ _)); (have HOKI := HOK.out i hi)
   have HOW := aM (winO_ok l left (i : Int) left.length (fun q hq => by
     obtain ⟨a, b⟩ := HR.out q hq
     obtain ⟨p, e⟩ := Int.eq_ofNat_of_zero_le a
     rw [e]
     exact HOK.out p z3) left.length (Nat.le_refl _))
   (have hwl := winO_len l left (i : Int) left.length); (obtain ⟨ad, e0, hx0, hx1, hx2, hx3⟩ := at_T55 (Kd.C_below HC.out HB.out) (i : Int) z3 z3); cases e0; simp only [Int.toNat_natCast] at hx0 hx1 hx2 hx3; (obtain ⟨adm, e0, hm0⟩ := Kd.at_int HM.out (i : Int) z3 z3); cases e0; rw [Int.toNat_natCast] at hm0; have HM0 := aM hm0; (have hgl := keepc HB.out Hgl.out); (have hgo := keepc HB.out HGO.out); (have HRES : Aside0 (res = ((delayD (rd_T55 l (i : Int)) (winO l left (i : Int) left.length) (maxTo lose lose.length)).2 && decide ((delayD (rd_T55 l (i : Int)) (winO l left (i : Int) left.length) (maxTo lose lose.length)).1 ≤ rd lims (i : Int)))) := ⟨HRS.out⟩); clear R7 h7 hr7 hm0 HRS; (generalize rd lims (i : Int) = lim at HM0 HRES); (generalize rd_T55 l (i : Int) = x at HOKI hx0 hx1 hx2 hx3 HRES); (generalize winO l left (i : Int) left.length = ws at W7 HOW hwl HRES ⊢); (obtain ⟨K, hK⟩ := delayF_ev x ws lose HOKI HOW.out HLO.out z3); (have hd : delayF K x ws lose = some (delayD x ws (maxTo lose lose.length)) := hK K (Nat.le_refl _)); clear hK; (generalize delayD x ws (maxTo lose lose.length) = D at hd HRES); obtain ⟨d, dk⟩ := D; have HOKX := aM HOKI; (have HCD : Aside0 (∀ W, Below wr.heap.size wr W → Calls Tryd.prog 67 #[.agg #[.int .i64 x.f0, .int .i64 x.f1, .int .i64 x.f2, .int .i64 x.f3], .slice A7 ws.length c7, .slice Ao lose.length co] W fun e w' => e = .returned (.tuple #[.int .i64 d, .bool dk]) ∧ Below W.heap.size W w') := ⟨fun W hb => bus_delay.calls K x A7 Ao c7 co ws lose d dk W (Kd.C_below W7.out.1 hb) W7.out.2 (Kd.C_below (Kd.C_below HO.out HB.out) hb) hco HOKX.out HOW.out HLO.out z3 z3 hd⟩)
   clear HOKI hwl hd; (have HY := aM (⟨hgl, hgo, hx0, hx1, hx2, hx3⟩ : _ ∧ _ ∧ _ ∧ _ ∧ _ ∧ _)); clear hgl hgo hx0 hx1 hx2 hx3; cases dk
   · (have e : res = false := by rw [HRES.out]; rfl); subst e; clear HRES; (go_upto_region 8 with (fail)); (have HS0 : Aside0 (∀ W1, Below wr.heap.size wr W1 → (fun w1 => w1.cell? ⟨gl, 0, none⟩ = some (.slice (some ad) l.length cl) ∧ w1.cell? ⟨go, 0, none⟩ = some (.slice Ao lose.length co) ∧ w1.cell? (ad.add (i * 4)) = some (.int .i64 x.f0) ∧ w1.cell? ⟨(ad.add (i * 4)).block, (ad.add (i * 4)).off + 1, none⟩ = some (.int .i64 x.f1) ∧ w1.cell? ⟨(ad.add (i * 4)).block, (ad.add (i * 4)).off + 2, none⟩ = some (.int .i64 x.f2) ∧ w1.cell? ⟨(ad.add (i * 4)).block, (ad.add (i * 4)).off + 3, none⟩ = some (.int .i64 x.f3)) W1) := ⟨fun W1 hb => ⟨keepc hb HY.out.1, keepc hb HY.out.2.1, keepc hb HY.out.2.2.1, keepc hb HY.out.2.2.2.1, keepc hb HY.out.2.2.2.2.1, keepc hb HY.out.2.2.2.2.2⟩⟩)
     go_region_held3 (fun w1 => w1.cell? ⟨gl, 0, none⟩ = some (.slice (some ad) l.length cl) ∧ w1.cell? ⟨go, 0, none⟩ = some (.slice Ao lose.length co) ∧ w1.cell? (ad.add (i * 4)) = some (.int .i64 x.f0) ∧ w1.cell? ⟨(ad.add (i * 4)).block, (ad.add (i * 4)).off + 1, none⟩ = some (.int .i64 x.f1) ∧ w1.cell? ⟨(ad.add (i * 4)).block, (ad.add (i * 4)).off + 2, none⟩ = some (.int .i64 x.f2) ∧ w1.cell? ⟨(ad.add (i * 4)).block, (ad.add (i * 4)).off + 3, none⟩ = some (.int .i64 x.f3)) (first | exact HY.out | exact HS0.out _ (by repeat (first | exact Below.refl _ _ | exact B5.out | apply below_alloc | apply pw_below_drewN | apply below_drew1)) | go_keep)
       (first
       | (go_at_call 67; refine (HCD.out _ z5).mono ?_; rintro e w5 ⟨rfl, b5⟩; have B5 : Aside0 (Below wr.heap.size wr w5) := ⟨below_step z5 b5⟩; clear b5))
     (rename_i hHeld); clear hHeld HS0; go_wp2; go_ret; (exact ⟨rfl, below_step HB.out B5.out⟩)
   (have e : res = decide (d ≤ lim) := by rw [HRES.out]; rfl); subst e; clear HRES; (go_upto_region 8 with (fail)); (have HS0 : Aside0 (∀ W1, Below wr.heap.size wr W1 → (fun w1 => w1.cell? ⟨gl, 0, none⟩ = some (.slice (some ad) l.length cl) ∧ w1.cell? ⟨go, 0, none⟩ = some (.slice Ao lose.length co) ∧ w1.cell? (ad.add (i * 4)) = some (.int .i64 x.f0) ∧ w1.cell? ⟨(ad.add (i * 4)).block, (ad.add (i * 4)).off + 1, none⟩ = some (.int .i64 x.f1) ∧ w1.cell? ⟨(ad.add (i * 4)).block, (ad.add (i * 4)).off + 2, none⟩ = some (.int .i64 x.f2) ∧ w1.cell? ⟨(ad.add (i * 4)).block, (ad.add (i * 4)).off + 3, none⟩ = some (.int .i64 x.f3)) W1) := ⟨fun W1 hb => ⟨keepc hb HY.out.1, keepc hb HY.out.2.1, keepc hb HY.out.2.2.1, keepc hb HY.out.2.2.2.1, keepc hb HY.out.2.2.2.2.1, keepc hb HY.out.2.2.2.2.2⟩⟩)
   go_region_held3 (fun w1 => w1.cell? ⟨gl, 0, none⟩ = some (.slice (some ad) l.length cl) ∧ w1.cell? ⟨go, 0, none⟩ = some (.slice Ao lose.length co) ∧ w1.cell? (ad.add (i * 4)) = some (.int .i64 x.f0) ∧ w1.cell? ⟨(ad.add (i * 4)).block, (ad.add (i * 4)).off + 1, none⟩ = some (.int .i64 x.f1) ∧ w1.cell? ⟨(ad.add (i * 4)).block, (ad.add (i * 4)).off + 2, none⟩ = some (.int .i64 x.f2) ∧ w1.cell? ⟨(ad.add (i * 4)).block, (ad.add (i * 4)).off + 3, none⟩ = some (.int .i64 x.f3)) (first | exact HY.out | exact HS0.out _ (by repeat (first | exact Below.refl _ _ | exact B5.out | apply below_alloc | apply pw_below_drewN | apply below_drew1)) | go_keep)
     (first
     | (go_at_call 67; refine (HCD.out _ z5).mono ?_; rintro e w5 ⟨rfl, b5⟩; have B5 : Aside0 (Below wr.heap.size wr w5) := ⟨below_step z5 b5⟩; clear b5))
   (rename_i hHeld); clear hHeld HS0; (have hgm := keepc (below_step HB.out B5.out) HGM.out); (have hml := keepc (below_step HB.out B5.out) HM0.out); go_wp2; go_ret; (exact ⟨rfl, below_step HB.out B5.out⟩)
end Go.Proofs.YtbanemecfobonaaDoor.B
