/- bend.free of places. -/
import Derived.Test.YtfbibheeogcacaaDoorXF0
namespace Go.Proofs.YtfbibheeogcacaaDoor.B
open Go.RowKit Go.Proofs.YtfbibheeogcacaaDoorW.PrintWords Go.Proofs.YtfbibheeogcacaaDoorW.PrintLast Go.Proofs.YtfbibheeogcacaaDoorW.PrintMore
set_option linter.unusedVariables false
set_option linter.unusedSimpArgs false
def idxP (l : List S77) (p : S77) : Int := idxB (fun i => p.f0 == (rd_T77 l (i : Int)).f0 && p.f1 == (rd_T77 l (i : Int)).f1) l.length 0
def freeB (l : List S77) : Bool := decide (idxB (fun i => idxP l (rd_T77 l (i : Int)) != (i : Int)) l.length 0 < 0)
set_option maxHeartbeats 2000000 in
set_option maxRecDepth 100000 in
theorem bend_free.calls (A0 : Option Addr) (c0 : Nat) (l : List S77) (w : World) (hr : Kd.C k77 w A0 l.length l) (hl : l.length ≤ 100) :
    Calls Tryd.prog 33 #[.slice A0 l.length c0] w fun e w' => e = .returned (.bool (freeB l)) ∧ Below w.heap.size w w' := by
  have HR := Aside0.mk hr
  rw [freeB]
  generalize hcc : (fun i : Nat => idxP l (rd_T77 l (i : Int)) != (i : Int)) = c
  have HCC : Aside0 (∀ i, c i = (idxP l (rd_T77 l (i : Int)) != (i : Int))) := ⟨fun i => by rw [← hcc]⟩
  have HB0 := Aside0.mk (Below.refl w.heap.size w)
  clear hr hcc
  go_enter Tryd.func33, Tryd.ntmps33
  go_wp2
  go_loopg [7] l.length (fun gk v8 w' => ∃ i : Nat, v8 = .int .i64 (i : Int) ∧ i ≤ l.length ∧ Aside0 (gk = l.length - i) ∧ Aside0 (idxB c l.length 0 = idxB c (l.length - i) i) ∧ Aside0 (Below w.heap.size w w'))
  case atStart => exact ⟨0, rfl, by omega, ⟨rfl⟩, ⟨rfl⟩, HB0⟩
  case round =>
    clear HB0
    obtain ⟨i, rfl, hi, HK, HI, HB⟩ := hrel
    by_cases hlt : i < l.length
    · obtain ⟨ad, e0, hx0, hx1⟩ := at_T77 (Kd.C_below HR.out HB.out) (i : Int) (by omega) (by omega)
      cases e0
      rw [Int.toNat_natCast] at hx0 hx1
      have HN : Aside0 (idxB c (l.length - i) i = if c i = true then (i : Int) else idxB c (l.length - (i + 1)) (i + 1)) := ⟨by rw [show l.length - i = (l.length - (i + 1)) + 1 by omega]; rfl⟩
      have hci := HCC.out i
      have HP : Aside0 (∀ W, Below w.heap.size w W → Calls Tryd.prog 44 #[.slice (some ad) l.length c0, .agg #[.int .i64 (rd_T77 l (i : Int)).f0, .int .i64 (rd_T77 l (i : Int)).f1]] W fun e w' => e = .returned (.int .i64 (idxP l (rd_T77 l (i : Int)))) ∧ Below W.heap.size W w') := ⟨fun W hb => Index_place (some ad) c0 l (rd_T77 l (i : Int)) W (Kd.C_below HR.out hb) hl⟩
      generalize rd_T77 l (i : Int) = x at hx0 hx1 hci HP
      generalize idxP l x = v at hci HP
      obtain ⟨bb, hbb⟩ : ∃ bb, c i = bb := ⟨_, rfl⟩
      rw [hbb] at hci HN
      clear hbb HCC
      go_upto_region 4 with (fail)
      have hba : Below w.heap.size w (wr.alloc (.cells #[.int .i64 x.f0, .int .i64 x.f1] 77)) := below_alloc HB.out _
      have hb0 := blk_new wr (.cells #[.int .i64 x.f0, .int .i64 x.f1] 77)
      have hp0 : (wr.alloc (.cells #[.int .i64 x.f0, .int .i64 x.f1] 77)).cell? ⟨wr.heap.size, 0, none⟩ = some (.int .i64 x.f0) := (blk_cell hb0 0).trans rfl
      have hp1 : (wr.alloc (.cells #[.int .i64 x.f0, .int .i64 x.f1] 77)).cell? ⟨wr.heap.size, 1, none⟩ = some (.int .i64 x.f1) := (blk_cell hb0 1).trans rfl
      clear hx0 hx1 hb0
      generalize wr.heap.size = gp at hp0 hp1 ⊢
      generalize wr.alloc (.cells #[.int .i64 x.f0, .int .i64 x.f1] 77) = W1 at hba hp0 hp1 ⊢
      have HBA := Aside0.mk hba
      clear hba
      go_wp2_with (first | (go_at_call 44; refine (HP.out _ HBA.out).mono ?_; rintro e w1 ⟨rfl, b1⟩; replace b1 := Aside0.mk b1) | (rw [← hci]))
      · rename_i h
        rw [h] at hci
        subst hci
        go_ret
        exact ⟨by rw [HI.out, HN.out, if_pos rfl, decide_eq_false (by omega)]; rfl, below_step HBA.out b1.out⟩
      · rename_i h
        rw [h] at hci
        subst hci
        go_roundg (l.length - (i + 1))
        case measure => have := HK.out; omega
        case rel => exact ⟨i + 1, by go_num, by omega, ⟨rfl⟩, ⟨by rw [HI.out, HN.out, if_neg (by simp)]⟩, ⟨below_step HBA.out b1.out⟩⟩
    · obtain rfl : i = l.length := by omega
      go_wp2
      go_ret
      exact ⟨by rw [HI.out, Nat.sub_self]; rfl, HB.out⟩
end Go.Proofs.YtfbibheeogcacaaDoor.B
