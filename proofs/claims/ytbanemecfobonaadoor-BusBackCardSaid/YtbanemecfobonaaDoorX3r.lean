/- Read: the frame that bits begin with. -/
import Derived.Test.YtbanemecfobonaaDoorXM1
import Derived.Deep.DeepCutAuto
import Derived.StillTailTactics
import Derived.Deep.RegionLaw
import Derived.Deep.RegionWith
namespace Go.Proofs.YtbanemecfobonaaDoor.B
open Go.RowKit Go.Proofs.YtbanemecfobonaaDoorW.PrintWords Go.Proofs.YtbanemecfobonaaDoorW.PrintLast Go.Proofs.YtbanemecfobonaaDoorW.PrintMore
set_option linter.unusedVariables false
set_option linter.unusedSimpArgs false

/-- A reader's place, its last bit, and how many alike. -/
structure Rd where
  pos : Int
  bit : Int
  many : Int
def Rd.step (l : List Int) (s : Rd) : Rd := ⟨s.pos + 1, (put1 s.bit s.many (rd l s.pos)).1, (put1 s.bit s.many (rd l s.pos)).2⟩
/-- The plain bits: whether they came to an end, and what was got. -/
def readLoop (l : List Int) : Nat → Rd → List Int → Option (Bool × List Int × Rd)
  | 0, _, _ => none
  | k + 1, s, got =>
    if got.length ≤ 1000 then
    (bus_bytesOf.f 300 got).bind fun n =>
    if (got.length : Int) < wrap64 (34 + wrap64 (8 * n)) then
      (bus_due.f 300 got).bind fun want =>
      if nextOk l s.pos want = true then
        if (s.step l).many = 5 then
          if nextOk l (s.step l).pos (wrap64 (1 - rd l s.pos)) = true then readLoop l k ((s.step l).step l) (got ++ [rd l s.pos])
          else some (false, got ++ [rd l s.pos], s.step l)
        else readLoop l k (s.step l) (got ++ [rd l s.pos])
      else some (false, got, s)
    else some (true, got, s)
    else none
def tailLoop (l : List Int) : List Int → Bool → Rd → Bool × Rd
  | [], ok, s => (ok, s)
  | b :: t, ok, s => if ok = true then (if nextOk l s.pos b = true then tailLoop l t true (s.step l) else tailLoop l t false s) else tailLoop l t false s
def dataLoop (got : List Int) (n : Int) : Nat → Int → List Int → Option (List Int)
  | 0, _, _ => none
  | k + 1, i, out =>
    if i < n then (if 27 + 8 * i ≤ (got.length : Int) then (bus_number.f 300 ((got.take (27 + 8 * i).toNat).drop (19 + 8 * i).toNat)).bind fun x => dataLoop got n k (i + 1) (out ++ [x]) else none) else some out
def bus_Read.f (l : List Int) : Option (Int × List Int × Int × Int) :=
  (bus_binary.f l).bind fun bin => if bin = true then
    (readLoop l 200 ⟨0, 0, 0⟩ []).bind fun q =>
    if (tailLoop l tailD q.1 q.2.2).1 = true then
      (if 12 ≤ q.2.1.length ∧ q.2.1.length ≤ 1000 then
      (bus_number.f 300 ((q.2.1.take 12).drop 1)).bind fun no =>
      (bus_bytesOf.f 300 q.2.1).bind fun n =>
      (dataLoop q.2.1 n 20 0 []).bind fun d => some (no, d, (tailLoop l tailD q.1 q.2.2).2.pos, 0) else none)
    else some (0, [], (tailLoop l tailD q.1 q.2.2).2.pos, 5)
  else some (0, [], 0, 2)

theorem tail_yes {l : List Int} {b : Int} {t : List Int} {s : Rd} (h : nextOk l s.pos b = true) : tailLoop l (b :: t) true s = tailLoop l t true (s.step l) := by simp [tailLoop, h]
theorem tail_no {l : List Int} {b : Int} {t : List Int} {s : Rd} (h : nextOk l s.pos b = false) : tailLoop l (b :: t) true s = tailLoop l t false s := by simp [tailLoop, h]
theorem IsRd.grown2 {w0 W W1 : World} {g : Nat} {A : Option Addr} {n c : Nat} {at_ bit many : Int} {base : Nat} {ok : Nat → Prop} {v : Value} {xs : List Int} (hg : W.grownBy W1 v.ownBlock) (h : IsRd w0 W g A n c at_ bit many) (ho : Kd.R (Kd.int .i64) 3 W base ok v xs) : IsRd w0 W1 g A n c at_ bit many := h.grown hg (h.own_ne ho)
theorem blk_grown2 {W W1 : World} {g : Nat} {cs : Array Value} {ty : TypeId} {base : Nat} {ok : Nat → Prop} {v : Value} {xs : List Int} (hg : W.grownBy W1 v.ownBlock) (h : W.heap[g]? = some (.cells cs ty (0, 0))) (ho : Kd.R (Kd.int .i64) 3 W base ok v xs) (hne : 3 ≠ ty) : W1.heap[g]? = some (.cells cs ty (0, 0)) := blk_grown h hg (Kd.R_ne ho h hne)
theorem nextOk_lt {l : List Int} {a want : Int} (h : nextOk l a want = true) (h1 : 0 ≤ a ∧ a ≤ l.length) : 0 ≤ a + 1 ∧ a + 1 ≤ l.length := by
  have : (a == (l.length : Int)) = false := by
    unfold nextOk at h
    cases e : (a == (l.length : Int))
    · rfl
    · rw [e] at h; simp at h
  have := beq_eq_false_iff_ne.1 this
  omega

set_option maxHeartbeats 8000000 in
set_option maxRecDepth 100000 in
theorem bus_Read.calls (A0 : Option Addr) (c0 : Nat) (l0 : List Int) (r1 : Int) (r2 : List Int) (r3 r4 : Int) (w : World) (hr0 : Kd.C (Kd.int .i64) w A0 l0.length l0) (hc0 : l0.length ≤ c0) (h : bus_Read.f l0 = some (r1, r2, r3, r4)) (ht : TailLaid w) :
    Calls Tryd.prog 20 #[.slice A0 l0.length c0] w fun e w' => ∃ v1_ : Value, e = .returned (.tuple #[.agg #[.int .i64 r1, v1_], .int .i64 r3, .int .i64 r4]) ∧ Kd.R (Kd.int .i64) 3 w' w.heap.size (fun _ => True) v1_ r2 ∧ Below w.heap.size w w' := by
  have HR0 := Aside0.mk hr0
  have HC0 := Aside0.mk hc0
  have HT := Aside0.mk ht
  have HB := Aside0.mk (Below.refl w.heap.size w)
  have hu24 := Tryd.underlying24
  have hu80 := Tryd.underlying80
  clear hr0 hc0 ht
  unfold bus_Read.f at h
  obtain ⟨bin, hbin, h⟩ := Option.bind_eq_some_iff.1 h
  have HBIN := Aside0.mk hbin
  clear hbin
  cases bin
  · simp only [Bool.false_eq_true, if_false, Option.some.injEq, Prod.mk.injEq] at h
    obtain ⟨rfl, rfl, rfl, rfl⟩ := h
    go_enter Tryd.func20, Tryd.ntmps20
    go_wp2_with fail
    go_step3
    go_wp2_with (go_at_call 46; refine (bus_binary.calls A0 c0 l0 false _ (Kd.C_alloc HR0.out _) HC0.out HBIN.out).mono ?_; rintro e w' ⟨rfl, ⟨nd, rfl⟩⟩)
    rw [Exit.noGoto_ret]
    refine bodyPost_ret (results_ctt rfl _ _ w.heap.size 24 #[.int .i64 0, .slice none 0 0] (0, 0) _ rfl (blk_put (blk_put (blk_drewN (blk_new w _) _) 0 _ rfl) 1 _ rfl) Tryd.underlying24 rfl (by kernel_rfl)) rfl ?_
    exact ⟨_, rfl, Kd.R_nil _ _ _ _ _, by repeat (first | exact HB.out | apply below_alloc | apply pw_below_drewN | apply below_drew1 | refine below_set ?_ (Nat.le_refl _))⟩
  · rw [if_pos rfl] at h
    obtain ⟨q, hq, h⟩ := Option.bind_eq_some_iff.1 h
    have HQ := Aside0.mk hq
    have H := Aside0.mk h
    clear hq h
    go_enter Tryd.func20, Tryd.ntmps20
    go_wp2_with fail
    go_step3
    go_wp2_with (go_at_call 46; refine (bus_binary.calls A0 c0 l0 true _ (Kd.C_alloc HR0.out _) HC0.out HBIN.out).mono ?_; rintro e w' ⟨rfl, ⟨nd, rfl⟩⟩)
    have hI1 : IsRd w (((w.alloc (.cells #[.int .i64 0, .slice none 0 0] 24)).drewN nd).alloc (.cells #[.slice A0 l0.length c0, .int .i64 0, .int .i64 0, .int .i64 0] 80)) (w.heap.size + 1) A0 l0.length c0 0 0 0 := ⟨by simpa using heap_alloc_new ((w.alloc (.cells #[.int .i64 0, .slice none 0 0] 24)).drewN nd) (.cells #[.slice A0 l0.length c0, .int .i64 0, .int .i64 0, .int .i64 0] 80), by omega⟩
    have HI := Aside0.mk hI1
    clear hI1
    have HB1 : Aside0 (Below w.heap.size w (((w.alloc (.cells #[.int .i64 0, .slice none 0 0] 24)).drewN nd).alloc (.cells #[.slice A0 l0.length c0, .int .i64 0, .int .i64 0, .int .i64 0] 80))) := ⟨by repeat (first | exact HB.out | apply below_alloc | apply pw_below_drewN | apply below_drew1)⟩
    have BK : Aside0 ((((w.alloc (.cells #[.int .i64 0, .slice none 0 0] 24)).drewN nd).alloc (.cells #[.slice A0 l0.length c0, .int .i64 0, .int .i64 0, .int .i64 0] 80)).heap[w.heap.size]? = some (.cells #[.int .i64 0, .slice none 0 0] 24 (0, 0))) := ⟨blk_alloc (blk_drewN (blk_new w _) _) _⟩
    go_step3
    go_upto_block 0 with (fail)
    go_cut [7, 8] (fun v7 v8 wx => v8 = .bool q.1 ∧ Aside0 (IsRd w wx (w.heap.size + 1) A0 l0.length c0 q.2.2.pos q.2.2.bit q.2.2.many) ∧ Aside0 (0 ≤ q.2.2.pos ∧ q.2.2.pos ≤ l0.length) ∧ Aside0 (Kd.R (Kd.int .i64) 3 wx w.heap.size (fun _ => True) v7 q.2.1) ∧ Aside0 (wx.heap[w.heap.size]? = some (.cells #[.int .i64 0, .slice none 0 0] 24 (0, 0))) ∧ Aside0 (Below w.heap.size w wx))
    case first =>
      go_wp2_with fail
      go_outline
      go_loopg [7, 8] 200 (fun gq v7 v8 w' => ∃ (got : List Int) (s : Rd), v8 = .bool true ∧ Aside0 (readLoop l0 gq s got = some q) ∧ Aside0 (IsRd w w' (w.heap.size + 1) A0 l0.length c0 s.pos s.bit s.many) ∧ Aside0 (0 ≤ s.pos ∧ s.pos ≤ l0.length) ∧ Aside0 (Kd.R (Kd.int .i64) 3 w' w.heap.size (fun _ => True) v7 got) ∧ Aside0 (w'.heap[w.heap.size]? = some (.cells #[.int .i64 0, .slice none 0 0] 24 (0, 0))) ∧ Aside0 (Below w.heap.size w w'))
      case atStart => exact ⟨[], ⟨0, 0, 0⟩, rfl, HQ, HI, ⟨by simp⟩, ⟨Kd.R_nil _ _ _ _ _⟩, BK, HB1⟩
      case round =>
        clear HI HB1 BK HQ
        obtain ⟨got, s, rfl, HA, HI, HP, HOg, BK, HB⟩ := hrel
        obtain ⟨Ag, cg, rfl⟩ := Kd.R_slice HOg.out
        have hE47 := enter_of Tryd.func47 (by kernel_rfl) rfl
        have HRg := Aside0.mk (Kd.R_reads' HOg.out).2.2
        have HCg := Aside0.mk (Kd.R_reads' HOg.out).2.1
        cases gk with
        | zero => exact absurd HA.out (by simp [readLoop])
        | succ k1 =>
        have ha := HA.out
        clear HA
        unfold readLoop at ha
        by_cases hgl : got.length ≤ 1000
        case neg => rw [if_neg hgl] at ha; exact absurd ha (by simp)
        rw [if_pos hgl] at ha
        obtain ⟨n, hn, ha⟩ := Option.bind_eq_some_iff.1 ha
        have HN := Aside0.mk hn
        clear hn
        by_cases c1 : (got.length : Int) < wrap64 (34 + wrap64 (8 * n))
        · rw [if_pos c1] at ha
          have c1b : decide ((got.length : Int) < wrap64 (34 + wrap64 (8 * n))) = true := decide_eq_true c1
          obtain ⟨want, hwant, ha⟩ := Option.bind_eq_some_iff.1 ha
          have HW := Aside0.mk hwant
          clear hwant c1
          by_cases c2 : nextOk l0 s.pos want = true
          · rw [if_pos c2] at ha
            have HN2 := Aside0.mk c2
            clear c2
            have HP2 := Aside0.mk (nextOk_lt HN2.out HP.out)
            by_cases c3 : (s.step l0).many = 5
            · rw [if_pos c3] at ha
              have c3b : ((put1 s.bit s.many (rd l0 s.pos)).2 == 5) = true := beq_iff_eq.2 c3
              clear c3
              by_cases c4 : nextOk l0 (s.step l0).pos (wrap64 (1 - rd l0 s.pos)) = true
              · rw [if_pos c4] at ha
                have HN3 := Aside0.mk c4
                have HA := Aside0.mk ha
                have HP3 := Aside0.mk (nextOk_lt HN3.out HP2.out)
                clear c4 ha
                go_wp2_with (first | (go_at_call 48; refine (bus_bytesOf.calls 300 _ _ got n _ (by repeat (first | exact HRg.out | (with_reducible refine Kd.C_drewN ?_ _) | (with_reducible refine Kd.C_alloc ?_ _) | (with_reducible refine Kd.C_drew ?_))) HCg.out HN.out).mono ?_; rintro e w' ⟨rfl, ⟨nd1, rfl⟩⟩) | (go_at_call 49; refine (bus_due.calls 300 _ _ got want _ (by repeat (first | exact HRg.out | (with_reducible refine Kd.C_drewN ?_ _) | (with_reducible refine Kd.C_alloc ?_ _) | (with_reducible refine Kd.C_drew ?_))) HCg.out HW.out).mono ?_; rintro e w' ⟨rfl, ⟨nd2, rfl⟩⟩) | (go_at_call 47; refine (reader_next_yes.calls (w.heap.size + 1) A0 c0 l0 s.pos s.bit s.many want w _ (by repeat (first | exact HI.out | apply IsRd.drewN | apply IsRd.alloc | apply IsRd.drew)) (by repeat (first | exact HB.out | apply below_alloc | apply pw_below_drewN | apply below_drew1)) (Kd.C_below HR0.out (by repeat (first | exact HB.out | apply below_alloc | apply pw_below_drewN | apply below_drew1))) HP.out.1 HP.out.2 HN2.out).mono ?_; rintro e w2 ⟨rfl, hi2, hb2, hk2⟩; have HI2 := Aside0.mk hi2; have HB2 := Aside0.mk hb2; have HK2 := Aside0.mk hk2; clear hi2 hb2 hk2; have HO2 := Aside0.mk (IsRd.keep (by repeat (first | exact HI.out | apply IsRd.drewN | apply IsRd.alloc | apply IsRd.drew)) HK2.out (by (with_reducible repeat (first | apply Kd.R_alloc | apply Kd.R_drewN | apply Kd.R_drew)); exact HOg.out)); have BK2 := Aside0.mk (KeepBut.blk HK2.out (by (with_reducible repeat (first | refine blk_drewN ?_ _ | refine blk_drew ?_ | refine blk_alloc ?_ _)); exact BK.out) (by omega) (by simp))) | ((with_reducible refine gate_builtin (b := .append) (xs := #[.tmp 39, .tmp 41]) rfl ?_); at_builtin; refine Kd.R_append (Kd.int .i64) (w0 := w) w.heap.size rfl (.tmp 39) (.tmp 41) 22 3 (.int .i64 0) 8 rfl Tryd.underlying22 info3 rfl (by decide) (by omega) (.slice Ag got.length cg) (got) (rd l0 s.pos) [.int .i64 (rd l0 s.pos)] (fun _ => True) (fun _ => False) rfl rfl ?aP (fun _ hk => hk.elim) ?aF ?aO ?aB ?aS ?aL ?_; (case aP => exact rfl); (case aB => exact HB2.out); (case aF => exact (fun _ _ => trivial)); (case aO => exact HO2.out); (case aS => exact HB2.out.size); (case aL => omega); intro v3 w3 ho1 hb1 hg1 hat1; have HO3 := Aside0.mk ho1; have HB3 := Aside0.mk hb1; have HI3 := Aside0.mk (IsRd.grown HI2.out hg1 (IsRd.own_ne HI2.out HO2.out)); have BK3 := Aside0.mk (blk_grown BK2.out hg1 (Kd.R_ne HO2.out BK2.out (by decide))); clear ho1 hb1 hg1 hat1))
                go_wp2_with (go_at_call 50; refine (row80_full.calls (w.heap.size + 1) A0 l0.length c0 (s.pos + 1) (put1 s.bit s.many (rd l0 s.pos)).1 (put1 s.bit s.many (rd l0 s.pos)).2 w _ HI3.out).mono ?_; rintro e w' ⟨rfl, ⟨nd4, rfl⟩⟩)
                go_wp2_with (go_at_call 47; refine (reader_next_yes.calls (w.heap.size + 1) A0 c0 l0 (s.pos + 1) (put1 s.bit s.many (rd l0 s.pos)).1 (put1 s.bit s.many (rd l0 s.pos)).2 (wrap64 (1 - rd l0 s.pos)) w _ (by repeat (first | exact HI3.out | apply IsRd.drewN | apply IsRd.alloc | apply IsRd.drew)) (by repeat (first | exact HB3.out | apply below_alloc | apply pw_below_drewN | apply below_drew1)) (Kd.C_below HR0.out (by repeat (first | exact HB3.out | apply below_alloc | apply pw_below_drewN | apply below_drew1))) HP2.out.1 HP2.out.2 HN3.out).mono ?_; rintro e w5 ⟨rfl, hi5, hb5, hk5⟩; have HI5 := Aside0.mk hi5; have HB5 := Aside0.mk hb5; have HK5 := Aside0.mk hk5; clear hi5 hb5 hk5; have HO5 := Aside0.mk (IsRd.keep (by repeat (first | exact HI3.out | apply IsRd.drewN | apply IsRd.alloc | apply IsRd.drew)) HK5.out (by (with_reducible repeat (first | apply Kd.R_alloc | apply Kd.R_drewN | apply Kd.R_drew)); exact HO3.out)); have BK5 := Aside0.mk (KeepBut.blk HK5.out (by (with_reducible repeat (first | refine blk_drewN ?_ _ | refine blk_drew ?_ | refine blk_alloc ?_ _)); exact BK3.out) (by omega) (by simp)))
                go_roundg k1
                case measure => omega
                case rel => exact ⟨_, (s.step l0).step l0, rfl, HA, HI5, HP3, HO5, BK5, HB5⟩
              · rw [if_neg c4] at ha
                have HN3 := Aside0.mk (Bool.eq_false_iff.2 c4)
                obtain rfl := Option.some.inj ha
                clear c4 ha
                go_wp2_with (first | (go_at_call 48; refine (bus_bytesOf.calls 300 _ _ got n _ (by repeat (first | exact HRg.out | (with_reducible refine Kd.C_drewN ?_ _) | (with_reducible refine Kd.C_alloc ?_ _) | (with_reducible refine Kd.C_drew ?_))) HCg.out HN.out).mono ?_; rintro e w' ⟨rfl, ⟨nd1, rfl⟩⟩) | (go_at_call 49; refine (bus_due.calls 300 _ _ got want _ (by repeat (first | exact HRg.out | (with_reducible refine Kd.C_drewN ?_ _) | (with_reducible refine Kd.C_alloc ?_ _) | (with_reducible refine Kd.C_drew ?_))) HCg.out HW.out).mono ?_; rintro e w' ⟨rfl, ⟨nd2, rfl⟩⟩) | (go_at_call 47; refine (reader_next_yes.calls (w.heap.size + 1) A0 c0 l0 s.pos s.bit s.many want w _ (by repeat (first | exact HI.out | apply IsRd.drewN | apply IsRd.alloc | apply IsRd.drew)) (by repeat (first | exact HB.out | apply below_alloc | apply pw_below_drewN | apply below_drew1)) (Kd.C_below HR0.out (by repeat (first | exact HB.out | apply below_alloc | apply pw_below_drewN | apply below_drew1))) HP.out.1 HP.out.2 HN2.out).mono ?_; rintro e w2 ⟨rfl, hi2, hb2, hk2⟩; have HI2 := Aside0.mk hi2; have HB2 := Aside0.mk hb2; have HK2 := Aside0.mk hk2; clear hi2 hb2 hk2; have HO2 := Aside0.mk (IsRd.keep (by repeat (first | exact HI.out | apply IsRd.drewN | apply IsRd.alloc | apply IsRd.drew)) HK2.out (by (with_reducible repeat (first | apply Kd.R_alloc | apply Kd.R_drewN | apply Kd.R_drew)); exact HOg.out)); have BK2 := Aside0.mk (KeepBut.blk HK2.out (by (with_reducible repeat (first | refine blk_drewN ?_ _ | refine blk_drew ?_ | refine blk_alloc ?_ _)); exact BK.out) (by omega) (by simp))) | ((with_reducible refine gate_builtin (b := .append) (xs := #[.tmp 39, .tmp 41]) rfl ?_); at_builtin; refine Kd.R_append (Kd.int .i64) (w0 := w) w.heap.size rfl (.tmp 39) (.tmp 41) 22 3 (.int .i64 0) 8 rfl Tryd.underlying22 info3 rfl (by decide) (by omega) (.slice Ag got.length cg) (got) (rd l0 s.pos) [.int .i64 (rd l0 s.pos)] (fun _ => True) (fun _ => False) rfl rfl ?aP (fun _ hk => hk.elim) ?aF ?aO ?aB ?aS ?aL ?_; (case aP => exact rfl); (case aB => exact HB2.out); (case aF => exact (fun _ _ => trivial)); (case aO => exact HO2.out); (case aS => exact HB2.out.size); (case aL => omega); intro v3 w3 ho1 hb1 hg1 hat1; have HO3 := Aside0.mk ho1; have HB3 := Aside0.mk hb1; have HI3 := Aside0.mk (IsRd.grown HI2.out hg1 (IsRd.own_ne HI2.out HO2.out)); have BK3 := Aside0.mk (blk_grown BK2.out hg1 (Kd.R_ne HO2.out BK2.out (by decide))); clear ho1 hb1 hg1 hat1))
                go_wp2_with (go_at_call 50; refine (row80_full.calls (w.heap.size + 1) A0 l0.length c0 (s.pos + 1) (put1 s.bit s.many (rd l0 s.pos)).1 (put1 s.bit s.many (rd l0 s.pos)).2 w _ HI3.out).mono ?_; rintro e w' ⟨rfl, ⟨nd4, rfl⟩⟩)
                go_wp2_with (go_at_call 47; refine (reader_next_no.calls (w.heap.size + 1) A0 c0 l0 (s.pos + 1) (put1 s.bit s.many (rd l0 s.pos)).1 (put1 s.bit s.many (rd l0 s.pos)).2 (wrap64 (1 - rd l0 s.pos)) w _ (by repeat (first | exact HI3.out | apply IsRd.drewN | apply IsRd.alloc | apply IsRd.drew)) (by repeat (first | exact HB3.out | apply below_alloc | apply pw_below_drewN | apply below_drew1)) (Kd.C_below HR0.out (by repeat (first | exact HB3.out | apply below_alloc | apply pw_below_drewN | apply below_drew1))) HP2.out.1 HP2.out.2 HN3.out).mono ?_; rintro e w' ⟨rfl, ⟨nd3, rfl⟩⟩)
                go_meet
                case rel => exact ⟨rfl, ⟨(by repeat (first | exact HI3.out | apply IsRd.drewN | apply IsRd.alloc | apply IsRd.drew))⟩, HP2, ⟨(by (with_reducible repeat (first | apply Kd.R_alloc | apply Kd.R_drewN | apply Kd.R_drew)); exact HO3.out)⟩, ⟨(by (with_reducible repeat (first | refine blk_drewN ?_ _ | refine blk_drew ?_ | refine blk_alloc ?_ _)); exact BK3.out)⟩, ⟨(by repeat (first | exact HB3.out | apply below_alloc | apply pw_below_drewN | apply below_drew1))⟩⟩
            · rw [if_neg c3] at ha
              have c3b : ((put1 s.bit s.many (rd l0 s.pos)).2 == 5) = false := beq_eq_false_iff_ne.2 c3
              have HA := Aside0.mk ha
              clear c3 ha
              go_wp2_with (first | (go_at_call 48; refine (bus_bytesOf.calls 300 _ _ got n _ (by repeat (first | exact HRg.out | (with_reducible refine Kd.C_drewN ?_ _) | (with_reducible refine Kd.C_alloc ?_ _) | (with_reducible refine Kd.C_drew ?_))) HCg.out HN.out).mono ?_; rintro e w' ⟨rfl, ⟨nd1, rfl⟩⟩) | (go_at_call 49; refine (bus_due.calls 300 _ _ got want _ (by repeat (first | exact HRg.out | (with_reducible refine Kd.C_drewN ?_ _) | (with_reducible refine Kd.C_alloc ?_ _) | (with_reducible refine Kd.C_drew ?_))) HCg.out HW.out).mono ?_; rintro e w' ⟨rfl, ⟨nd2, rfl⟩⟩) | (go_at_call 47; refine (reader_next_yes.calls (w.heap.size + 1) A0 c0 l0 s.pos s.bit s.many want w _ (by repeat (first | exact HI.out | apply IsRd.drewN | apply IsRd.alloc | apply IsRd.drew)) (by repeat (first | exact HB.out | apply below_alloc | apply pw_below_drewN | apply below_drew1)) (Kd.C_below HR0.out (by repeat (first | exact HB.out | apply below_alloc | apply pw_below_drewN | apply below_drew1))) HP.out.1 HP.out.2 HN2.out).mono ?_; rintro e w2 ⟨rfl, hi2, hb2, hk2⟩; have HI2 := Aside0.mk hi2; have HB2 := Aside0.mk hb2; have HK2 := Aside0.mk hk2; clear hi2 hb2 hk2; have HO2 := Aside0.mk (IsRd.keep (by repeat (first | exact HI.out | apply IsRd.drewN | apply IsRd.alloc | apply IsRd.drew)) HK2.out (by (with_reducible repeat (first | apply Kd.R_alloc | apply Kd.R_drewN | apply Kd.R_drew)); exact HOg.out)); have BK2 := Aside0.mk (KeepBut.blk HK2.out (by (with_reducible repeat (first | refine blk_drewN ?_ _ | refine blk_drew ?_ | refine blk_alloc ?_ _)); exact BK.out) (by omega) (by simp))) | ((with_reducible refine gate_builtin (b := .append) (xs := #[.tmp 39, .tmp 41]) rfl ?_); at_builtin; refine Kd.R_append (Kd.int .i64) (w0 := w) w.heap.size rfl (.tmp 39) (.tmp 41) 22 3 (.int .i64 0) 8 rfl Tryd.underlying22 info3 rfl (by decide) (by omega) (.slice Ag got.length cg) (got) (rd l0 s.pos) [.int .i64 (rd l0 s.pos)] (fun _ => True) (fun _ => False) rfl rfl ?aP (fun _ hk => hk.elim) ?aF ?aO ?aB ?aS ?aL ?_; (case aP => exact rfl); (case aB => exact HB2.out); (case aF => exact (fun _ _ => trivial)); (case aO => exact HO2.out); (case aS => exact HB2.out.size); (case aL => omega); intro v3 w3 ho1 hb1 hg1 hat1; have HO3 := Aside0.mk ho1; have HB3 := Aside0.mk hb1; have HI3 := Aside0.mk (IsRd.grown HI2.out hg1 (IsRd.own_ne HI2.out HO2.out)); have BK3 := Aside0.mk (blk_grown BK2.out hg1 (Kd.R_ne HO2.out BK2.out (by decide))); clear ho1 hb1 hg1 hat1))
              go_wp2_with (go_at_call 50; refine (row80_full.calls (w.heap.size + 1) A0 l0.length c0 (s.pos + 1) (put1 s.bit s.many (rd l0 s.pos)).1 (put1 s.bit s.many (rd l0 s.pos)).2 w _ HI3.out).mono ?_; rintro e w' ⟨rfl, ⟨nd4, rfl⟩⟩)
              go_roundg k1
              case measure => omega
              case rel => exact ⟨_, s.step l0, rfl, HA, ⟨(by repeat (first | exact HI3.out | apply IsRd.drewN | apply IsRd.alloc | apply IsRd.drew))⟩, HP2, ⟨(by (with_reducible repeat (first | apply Kd.R_alloc | apply Kd.R_drewN | apply Kd.R_drew)); exact HO3.out)⟩, ⟨(by (with_reducible repeat (first | refine blk_drewN ?_ _ | refine blk_drew ?_ | refine blk_alloc ?_ _)); exact BK3.out)⟩, ⟨(by repeat (first | exact HB3.out | apply below_alloc | apply pw_below_drewN | apply below_drew1))⟩⟩
          · rw [if_neg c2] at ha
            have HN2 := Aside0.mk (Bool.eq_false_iff.2 c2)
            obtain rfl := Option.some.inj ha
            clear c2 ha
            go_wp2_with (first | (go_at_call 48; refine (bus_bytesOf.calls 300 _ _ got n _ (by repeat (first | exact HRg.out | (with_reducible refine Kd.C_drewN ?_ _) | (with_reducible refine Kd.C_alloc ?_ _) | (with_reducible refine Kd.C_drew ?_))) HCg.out HN.out).mono ?_; rintro e w' ⟨rfl, ⟨nd1, rfl⟩⟩) | (go_at_call 49; refine (bus_due.calls 300 _ _ got want _ (by repeat (first | exact HRg.out | (with_reducible refine Kd.C_drewN ?_ _) | (with_reducible refine Kd.C_alloc ?_ _) | (with_reducible refine Kd.C_drew ?_))) HCg.out HW.out).mono ?_; rintro e w' ⟨rfl, ⟨nd2, rfl⟩⟩) | (go_at_call 47; refine (reader_next_no.calls (w.heap.size + 1) A0 c0 l0 s.pos s.bit s.many want w _ (by repeat (first | exact HI.out | apply IsRd.drewN | apply IsRd.alloc | apply IsRd.drew)) (by repeat (first | exact HB.out | apply below_alloc | apply pw_below_drewN | apply below_drew1)) (Kd.C_below HR0.out (by repeat (first | exact HB.out | apply below_alloc | apply pw_below_drewN | apply below_drew1))) HP.out.1 HP.out.2 HN2.out).mono ?_; rintro e w' ⟨rfl, ⟨nd3, rfl⟩⟩))
            go_meet
            case rel => exact ⟨rfl, ⟨(by repeat (first | exact HI.out | apply IsRd.drewN | apply IsRd.alloc | apply IsRd.drew))⟩, HP, ⟨(by (with_reducible repeat (first | apply Kd.R_alloc | apply Kd.R_drewN | apply Kd.R_drew)); exact HOg.out)⟩, ⟨(by (with_reducible repeat (first | refine blk_drewN ?_ _ | refine blk_drew ?_ | refine blk_alloc ?_ _)); exact BK.out)⟩, ⟨(by repeat (first | exact HB.out | apply below_alloc | apply pw_below_drewN | apply below_drew1))⟩⟩
        · rw [if_neg c1] at ha
          have c1b : decide ((got.length : Int) < wrap64 (34 + wrap64 (8 * n))) = false := decide_eq_false c1
          obtain rfl := Option.some.inj ha
          clear c1 ha
          go_wp2_with (go_at_call 48; refine (bus_bytesOf.calls 300 _ _ got n _ (by repeat (first | exact HRg.out | (with_reducible refine Kd.C_drewN ?_ _) | (with_reducible refine Kd.C_alloc ?_ _) | (with_reducible refine Kd.C_drew ?_))) HCg.out HN.out).mono ?_; rintro e w' ⟨rfl, ⟨nd1, rfl⟩⟩)
          go_meet
          case rel => exact ⟨rfl, ⟨(by repeat (first | exact HI.out | apply IsRd.drewN | apply IsRd.alloc | apply IsRd.drew))⟩, HP, ⟨(by (with_reducible repeat (first | apply Kd.R_alloc | apply Kd.R_drewN | apply Kd.R_drew)); exact HOg.out)⟩, ⟨(by (with_reducible repeat (first | refine blk_drewN ?_ _ | refine blk_drew ?_ | refine blk_alloc ?_ _)); exact BK.out)⟩, ⟨(by repeat (first | exact HB.out | apply below_alloc | apply pw_below_drewN | apply below_drew1))⟩⟩
    case rest =>
      obtain ⟨rfl, HI2, HP2, HO2, BK2, HB2⟩ := hcut
      obtain ⟨Ag, cg, rfl⟩ := Kd.R_slice HO2.out
      obtain ⟨At, ct, hct0, hcl, hrt0⟩ := HT.out
      obtain ⟨adt, e0, hx9⟩ := Kd.at_int hrt0 0 (by omega) (by omega)
      cases e0
      clear hx9
      have HRT := Aside0.mk hrt0
      have hct : wc.cell? ⟨0, 0, none⟩ = some (.slice (some adt) 13 ct) := pw_cell_below HB2.out hct0
      clear hrt0 hct0 HB HB1 BK HI
      go_wp2_with fail
      go_loopg [8, 58] 13 (fun gq v8 v58 w' => ∃ (x : Int) (ok : Bool) (s : Rd), v8 = .bool ok ∧ v58 = .int .i64 x ∧ 0 ≤ x ∧ x ≤ 13 ∧ Aside0 (gq = 13 - x.toNat) ∧ Aside0 (tailLoop l0 (tailD.drop x.toNat) ok s = tailLoop l0 tailD q.1 q.2.2) ∧ Aside0 (IsRd w w' (w.heap.size + 1) A0 l0.length c0 s.pos s.bit s.many) ∧ Aside0 (0 ≤ s.pos ∧ s.pos ≤ l0.length) ∧ Aside0 (Kd.R (Kd.int .i64) 3 w' w.heap.size (fun _ => True) (.slice Ag q.2.1.length cg) q.2.1) ∧ Aside0 (w'.heap[w.heap.size]? = some (.cells #[.int .i64 0, .slice none 0 0] 24 (0, 0))) ∧ Aside0 (Below w.heap.size w w'))
      case atStart => exact ⟨0, q.1, q.2.2, rfl, rfl, by omega, by omega, ⟨by simp⟩, ⟨by simp⟩, HI2, HP2, HO2, BK2, HB2⟩
      case round =>
        clear HI2 HP2 HO2 BK2 HB2 hct
        obtain ⟨x, ok, s, rfl, rfl, hx0, hx13, HG, HE, HI, HP, HOg, BK, HB⟩ := hrel
        by_cases hlt : x < 13
        · obtain ⟨ad2, e2, hxc⟩ := Kd.at_int (Kd.C_below HRT.out HB.out) x hx0 hlt
          cases e2
          have hdrop : tailD.drop x.toNat = rd tailD x :: tailD.drop (x + 1).toNat := by
            have e1 : (x + 1).toNat = x.toNat + 1 := by omega
            have h1 : x.toNat < tailD.length := by rw [tailD_length]; omega
            rw [e1, List.drop_eq_getElem_cons h1]
            congr 1
            simp [rd, List.getD_eq_getElem?_getD, List.getElem?_eq_getElem h1]
          have he := HE.out
          rw [hdrop] at he
          clear HE hdrop
          cases ok
          · have HE : Aside0 (tailLoop l0 (tailD.drop (x + 1).toNat) false s = tailLoop l0 tailD q.1 q.2.2) := ⟨he⟩
            clear he
            go_wp2_with fail
            go_roundg (gk - 1)
            case measure => have := HG.out; omega
            case rel => exact ⟨x + 1, false, s, rfl, rfl, by omega, by omega, ⟨by have := HG.out; omega⟩, HE, HI, HP, HOg, BK, HB⟩
          · by_cases c2 : nextOk l0 s.pos (rd tailD x) = true
            · have HE : Aside0 (tailLoop l0 (tailD.drop (x + 1).toNat) true (s.step l0) = tailLoop l0 tailD q.1 q.2.2) := ⟨by rw [← he, tail_yes c2]⟩
              have HN := Aside0.mk c2
              clear he c2
              have HP2 := Aside0.mk (nextOk_lt HN.out HP.out)
              go_wp2_with (go_at_call 47; refine (reader_next_yes.calls (w.heap.size + 1) A0 c0 l0 s.pos s.bit s.many (rd tailD x) w _ (by repeat (first | exact HI.out | apply IsRd.drewN | apply IsRd.alloc | apply IsRd.drew)) (by repeat (first | exact HB.out | apply below_alloc | apply pw_below_drewN | apply below_drew1)) (Kd.C_below HR0.out (by repeat (first | exact HB.out | apply below_alloc | apply pw_below_drewN | apply below_drew1))) HP.out.1 HP.out.2 HN.out).mono ?_; rintro e w5 ⟨rfl, hi5, hb5, hk5⟩; have HI5 := Aside0.mk hi5; have HB5 := Aside0.mk hb5; have HK5 := Aside0.mk hk5; clear hi5 hb5 hk5; have HO5 := Aside0.mk (IsRd.keep (by repeat (first | exact HI.out | apply IsRd.drewN | apply IsRd.alloc | apply IsRd.drew)) HK5.out (by (with_reducible repeat (first | apply Kd.R_alloc | apply Kd.R_drewN | apply Kd.R_drew)); exact HOg.out)); have BK5 := Aside0.mk (KeepBut.blk HK5.out (by (with_reducible repeat (first | refine blk_drewN ?_ _ | refine blk_drew ?_ | refine blk_alloc ?_ _)); exact BK.out) (by omega) (by simp)))
              go_roundg (gk - 1)
              case measure => have := HG.out; omega
              case rel => exact ⟨x + 1, true, s.step l0, rfl, rfl, by omega, by omega, ⟨by have := HG.out; omega⟩, HE, HI5, HP2, HO5, BK5, HB5⟩
            · have HE : Aside0 (tailLoop l0 (tailD.drop (x + 1).toNat) false s = tailLoop l0 tailD q.1 q.2.2) := ⟨by rw [← he, tail_no (Bool.eq_false_iff.2 c2)]⟩
              have HN := Aside0.mk (Bool.eq_false_iff.2 c2)
              clear he c2
              go_wp2_with (go_at_call 47; refine (reader_next_no.calls (w.heap.size + 1) A0 c0 l0 s.pos s.bit s.many (rd tailD x) w _ (by repeat (first | exact HI.out | apply IsRd.drewN | apply IsRd.alloc | apply IsRd.drew)) (by repeat (first | exact HB.out | apply below_alloc | apply pw_below_drewN | apply below_drew1)) (Kd.C_below HR0.out (by repeat (first | exact HB.out | apply below_alloc | apply pw_below_drewN | apply below_drew1))) HP.out.1 HP.out.2 HN.out).mono ?_; rintro e w' ⟨rfl, ⟨nd3, rfl⟩⟩)
              go_roundg (gk - 1)
              case measure => have := HG.out; omega
              case rel => exact ⟨x + 1, false, s, rfl, rfl, by omega, by omega, ⟨by have := HG.out; omega⟩, HE, ⟨(by repeat (first | exact HI.out | apply IsRd.drewN | apply IsRd.alloc | apply IsRd.drew))⟩, HP, ⟨(by (with_reducible repeat (first | apply Kd.R_alloc | apply Kd.R_drewN | apply Kd.R_drew)); exact HOg.out)⟩, ⟨(by (with_reducible repeat (first | refine blk_drewN ?_ _ | refine blk_drew ?_ | refine blk_alloc ?_ _)); exact BK.out)⟩, ⟨(by repeat (first | exact HB.out | apply below_alloc | apply pw_below_drewN | apply below_drew1))⟩⟩
        · have hx : x = 13 := by omega
          subst hx
          have he := HE.out
          have e13 : tailD.drop (13 : Int).toNat = [] := rfl
          rw [e13, tailLoop] at he
          have HE2 := Aside0.mk he.symm
          clear HE he e13
          have h := H.out
          rw [HE2.out] at h
          cases ok
          · simp only [Bool.false_eq_true, if_false, Option.some.injEq, Prod.mk.injEq] at h
            obtain ⟨rfl, rfl, rfl, rfl⟩ := h
            have hcz1 : wr.cell? ⟨w.heap.size + 1, 1, none⟩ = some (.int .i64 s.pos) := (blk_cell HI.out.1 1).trans rfl
            have hc0 : wr.cell? ⟨w.heap.size, 0, none⟩ = some (.int .i64 0) := (blk_cell BK.out 0).trans rfl
            have hc1 : wr.cell? ⟨w.heap.size, 1, none⟩ = some (.slice none 0 0) := (blk_cell BK.out 1).trans rfl
            have hf0 := blk_frozen BK.out 0
            have hf1 := blk_frozen BK.out 1
            go_wp2_with fail
            go_region
            go_wp2_with fail
            rw [Exit.noGoto_ret]
            refine bodyPost_ret (results_ctt rfl _ _ w.heap.size 24 #[.int .i64 0, .slice none 0 0] (0, 0) _ rfl (by (with_reducible repeat (first | refine blk_drewN ?_ _ | refine blk_drew ?_)); exact (blk_put (blk_put BK.out 0 _ rfl) 1 _ rfl)) Tryd.underlying24 rfl (by kernel_rfl)) rfl ?_
            exact ⟨_, rfl, Kd.R_nil _ _ _ _ _, by repeat (first | exact HB.out | apply below_alloc | apply pw_below_drewN | apply below_drew1 | refine below_set ?_ (Nat.le_refl _))⟩
          · rw [if_pos rfl] at h
            by_cases hgl : 12 ≤ q.2.1.length ∧ q.2.1.length ≤ 1000
            case neg => rw [if_neg hgl] at h; exact absurd h (by simp)
            rw [if_pos hgl] at h
            obtain ⟨no, hno, h⟩ := Option.bind_eq_some_iff.1 h
            obtain ⟨n, hn, h⟩ := Option.bind_eq_some_iff.1 h
            obtain ⟨d, hd, h⟩ := Option.bind_eq_some_iff.1 h
            simp only [Option.some.injEq, Prod.mk.injEq] at h
            obtain ⟨rfl, rfl, rfl, rfl⟩ := h
            have HNO := Aside0.mk hno
            have HN := Aside0.mk hn
            have HD := Aside0.mk hd
            have hg12 : (12 : Int) ≤ q.2.1.length := by omega
            have hg1000 : (q.2.1.length : Int) ≤ 1000 := by omega
            clear hno hd hn hgl
            obtain ⟨i05, hi05, _, hsz5, _⟩ := info_parts info3
            obtain ⟨A5, hcut5, hA5, hC5⟩ := print_mid_of (P := Tryd.prog) (Value.int .i64) 0 22 3 .i64 .i64 Tryd.underlying22 hi05 hsz5 Ag cg q.2.1 1 12 (by omega) (by omega) hg12 (Kd.R_reads' HOg.out).2.1
            have HR5 := Aside0.mk (Kd.C_of_reads (h1 := fun _ => rfl) (hA5 _ (Kd.reads_of_C (Kd.R_reads' HOg.out).2.2)))
            have HC5 := Aside0.mk hC5
            clear hA5 hC5 hi05 hsz5
            have hl5 : ((q.2.1.take (12 : Int).toNat).drop (1 : Int).toNat).length = 11 := by simp; omega
            rw [hl5] at hcut5
            have hN51 := bus_number.calls 300 A5 (cg - 1) _ no wr HR5.out HC5.out HNO.out
            rw [hl5] at hN51
            have HN51 := Aside0.mk hN51
            clear hN51
            go_wp2_with fail
            refine HN51.out.mono ?_
            rintro e w5 ⟨rfl, hd5⟩
            have hb5 := hd5.below
            have HI5 := Aside0.mk (IsRd.below HI.out hb5)
            have HO5 := Aside0.mk (Kd.R_below HOg.out hb5)
            have BK5 := Aside0.mk (blk_below BK.out hb5)
            have HB5 := Aside0.mk (below_step HB.out hb5)
            clear hb5 hd5 HI HOg BK HB HR5 HC5 HN51 hcut5 hl5
            go_wp2_with fail
            have h48 := bus_bytesOf.calls 300 Ag cg q.2.1 n (w5.alloc (.cells #[.int .i64 no, .slice none 0 0] 24)) (Kd.C_alloc (Kd.R_reads' HO5.out).2.2 _) (Kd.R_reads' HO5.out).2.1 HN.out
            refine h48.mono ?_
            clear h48
            rintro e w6 ⟨rfl, hd6⟩
            have hb6 := hd6.below
            have HI6 := Aside0.mk (IsRd.below (IsRd.alloc HI5.out _) hb6)
            have HO6 := Aside0.mk (Kd.R_below (Kd.R_alloc HO5.out _) hb6)
            have BK6 := Aside0.mk (blk_below (blk_alloc BK5.out _) hb6)
            have BF6 := Aside0.mk (blk_below (blk_new w5 (.cells #[.int .i64 no, .slice none 0 0] 24)) hb6)
            have HB6 := Aside0.mk (below_step (below_alloc HB5.out _) hb6)
            obtain ⟨gF, hgF⟩ : ∃ gF, gF = w5.heap.size := ⟨_, rfl⟩
            have hgw : w.heap.size + 1 < gF := by rw [hgF]; exact blk_lt HI5.out.1
            have HGW := Aside0.mk hgw
            rw [← hgF] at BF6
            rw [← hgF]
            clear hd6 hb6 hgw HI5 HO5 BK5 HB5 hgF
            go_wp2_with fail
            go_loopg [83] 20 (fun gq v83 w' => ∃ (i : Int) (out : List Int) (v : Value), v83 = .int .i64 i ∧ 0 ≤ i ∧ Aside0 (dataLoop q.2.1 n gq i out = some d) ∧ Aside0 (out.length ≤ i) ∧ Aside0 (IsRd w w' (w.heap.size + 1) A0 l0.length c0 s.pos s.bit s.many) ∧ Aside0 (Kd.R (Kd.int .i64) 3 w' w.heap.size (fun k_ => True ∧ some k_ ≠ (v : Value).ownBlock) (.slice Ag q.2.1.length cg) q.2.1) ∧ Aside0 (Kd.R (Kd.int .i64) 3 w' w.heap.size (fun k_ => some k_ ≠ (.slice Ag q.2.1.length cg : Value).ownBlock) v out) ∧ Aside0 (w'.heap[w.heap.size]? = some (.cells #[.int .i64 0, .slice none 0 0] 24 (0, 0))) ∧ Aside0 (w'.heap[gF]? = some (.cells #[.int .i64 no, v] 24 (0, 0))) ∧ Aside0 (Below w.heap.size w w'))
            case atStart => exact ⟨0, [], _, rfl, by omega, HD, ⟨by simp⟩, HI6, ⟨Kd.R_mono HO6.out (fun _ hk => ⟨trivial, by simp [Value.ownBlock]⟩)⟩, ⟨Kd.R_nil _ _ _ _ _⟩, BK6, BF6, HB6⟩
            case round =>
              clear HI6 HO6 BK6 BF6 HB6 HD
              obtain ⟨i, out, v, rfl, hi0, HD, HL, HI, HOg, HOo, BK, BF, HB⟩ := hrel
              cases gk with
              | zero => exact absurd HD.out (by simp [dataLoop])
              | succ k1 =>
              have hd := HD.out
              clear HD
              unfold dataLoop at hd
              by_cases c1 : i < n
              · rw [if_pos c1] at hd
                by_cases c2 : 27 + 8 * i ≤ (q.2.1.length : Int)
                case neg => rw [if_neg c2] at hd; exact absurd hd (by simp)
                rw [if_pos c2] at hd
                obtain ⟨x, hx, hd⟩ := Option.bind_eq_some_iff.1 hd
                have HX := Aside0.mk hx
                have HD := Aside0.mk hd
                clear hx hd
                obtain ⟨Av, cv, rfl⟩ := Kd.R_slice HOo.out
                have hF0 : wr.cell? ⟨gF, 0, none⟩ = some (.int .i64 no) := (blk_cell BF.out 0).trans rfl
                have hF1 : wr.cell? ⟨gF, 1, none⟩ = some (.slice Av out.length cv) := (blk_cell BF.out 1).trans rfl
                have hFa : ∀ n o, ((wr.drewN n).alloc o).cell? ⟨gF, 1, none⟩ = some (.slice Av out.length cv) := fun n o => (blk_cell (blk_alloc (blk_drewN BF.out n) o) 1).trans rfl
                have hff1 := blk_frozen BF.out 1
                go_wp2_with fail
                have hwx1 : IntKind.i64.wrap (8 * i) = 8 * i := IntWalk.i64_in _ (by omega)
                have hwx2 : IntKind.i64.wrap (19 + 8 * i) = 19 + 8 * i := IntWalk.i64_in _ (by omega)
                have hwx3 : IntKind.i64.wrap (27 + 8 * i) = 27 + 8 * i := IntWalk.i64_in _ (by omega)
                obtain ⟨i05, hi05, _, hsz5, _⟩ := info_parts info3
                obtain ⟨A6, hcut6, hA6, hC6⟩ := print_mid_of (P := Tryd.prog) (Value.int .i64) 0 22 3 .i64 .i64 Tryd.underlying22 hi05 hsz5 Ag cg q.2.1 (19 + 8 * i) (27 + 8 * i) (by omega) (by omega) c2 (Kd.R_reads' HOg.out).2.1
                have HR6 := Aside0.mk (Kd.C_of_reads (h1 := fun _ => rfl) (hA6 _ (Kd.reads_of_C (Kd.R_reads' HOg.out).2.2)))
                have HC6 := Aside0.mk hC6
                have H51 := Aside0.mk (fun W hW => bus_number.calls 300 A6 (cg - (19 + 8 * i).toNat) _ x W hW HC6.out HX.out)
                clear hA6 hC6 hi05 hsz5
                go_region_law (first | (refine goes_ Tryd.func51 (by kernel_rfl) rfl #[.slice A6 ((q.2.1.take (27 + 8 * i).toNat).drop (19 + 8 * i).toNat).length (cg - (19 + 8 * i).toNat)] (by rfl) rfl rfl (by simp [Act.eval, Act.put] <;> omega) ?_; refine (H51.out _ ?hc8).mono ?_; (case hc8 => exact (by repeat (first | exact HR6.out | (with_reducible refine Kd.C_drewN ?_ _) | (with_reducible refine Kd.C_alloc ?_ _) | (with_reducible refine Kd.C_drew ?_)))); rintro e w' ⟨rfl, ⟨nd8, rfl⟩⟩; refine ⟨_, rfl, ?_⟩) | (refine Kd.R_append_step (Kd.int .i64) (w0 := w) w.heap.size (by rfl) (.tmp 87) (.tmp 97) 22 3 (.int .i64 0) 8 rfl Tryd.underlying22 info3 rfl (by decide) (by omega) (.slice Av out.length cv) out x [.int .i64 x] (fun k_ => some k_ ≠ (.slice Ag q.2.1.length cg : Value).ownBlock) (fun _ => False) rfl rfl ?aP (fun _ hk => hk.elim) ?aF ?aO ?aB ?aS ?aL ?_; (case aP => exact rfl); (case aB => exact (by repeat (first | exact HB.out | apply below_alloc | apply pw_below_drewN | apply below_drew1))); (case aF => exact (fun k_ hk => Kd.fresh' (Kd.R_lt (by (with_reducible repeat (first | apply Kd.R_alloc | apply Kd.R_drewN | apply Kd.R_drew)); exact HOg.out)) k_ hk)); (case aO => exact (by (with_reducible repeat (first | apply Kd.R_alloc | apply Kd.R_drewN | apply Kd.R_drew)); exact HOo.out)); (case aS => exact below_size (by repeat (first | exact HB.out | apply below_alloc | apply pw_below_drewN | apply below_drew1))); (case aL => have := HL.out; omega); intro v9 w9 ho9 hb9 hg9 hat9; obtain ⟨A9, c9, rfl⟩ := Kd.R_slice ho9; have HO9 := Aside0.mk ho9; have HB9 := Aside0.mk hb9; have HOg9 := Aside0.mk (Kd.R_after (ok := fun _ => True) (by (with_reducible repeat (first | apply Kd.R_alloc | apply Kd.R_drewN | apply Kd.R_drew)); exact HOg.out) hg9 hat9); have HI9 := Aside0.mk (IsRd.grown2 hg9 (by repeat (first | exact HI.out | apply IsRd.drewN | apply IsRd.alloc | apply IsRd.drew)) (by (with_reducible repeat (first | apply Kd.R_alloc | apply Kd.R_drewN | apply Kd.R_drew)); exact HOo.out)); have BK9 := Aside0.mk (blk_grown2 hg9 (by (with_reducible repeat (first | refine blk_drewN ?_ _ | refine blk_drew ?_ | refine blk_alloc ?_ _)); exact BK.out) (by (with_reducible repeat (first | apply Kd.R_alloc | apply Kd.R_drewN | apply Kd.R_drew)); exact HOo.out) (by decide)); have BF9 := Aside0.mk (blk_grown2 hg9 (by (with_reducible repeat (first | refine blk_drewN ?_ _ | refine blk_drew ?_ | refine blk_alloc ?_ _)); exact BF.out) (by (with_reducible repeat (first | apply Kd.R_alloc | apply Kd.R_drewN | apply Kd.R_drew)); exact HOo.out) (by decide)); clear ho9 hb9 hg9 hat9; have hF91 : w9.cell? ⟨gF, 1, none⟩ = some (.slice Av out.length cv) := (blk_cell BF9.out 1).trans rfl; have hff91 := blk_frozen BF9.out 1))
                all_goals
                  go_wp2_with fail
                  go_roundg k1
                  case measure => omega
                  case rel => exact ⟨i + 1, out ++ [x], .slice A9 (out ++ [x]).length c9, rfl, by omega, HD, ⟨by have := HL.out; simp; omega⟩,
                    ⟨by (repeat (first | apply IsRd.drewN | apply IsRd.drew)); exact ⟨blk_far HI9.out.1 (by have := HGW.out; show _ ≠ gF; omega) _, HI9.out.2⟩⟩,
                    ⟨by (with_reducible repeat (first | apply Kd.R_drewN | apply Kd.R_drew)); exact Kd.R_set HOg9.out BF9.out (by decide) 1 _⟩,
                    ⟨by (with_reducible repeat (first | apply Kd.R_drewN | apply Kd.R_drew)); exact Kd.R_set HO9.out BF9.out (by decide) 1 _⟩,
                    ⟨by (with_reducible repeat (first | refine blk_drewN ?_ _ | refine blk_drew ?_)); exact blk_far BK9.out (by have := HGW.out; show _ ≠ gF; omega) _⟩,
                    ⟨by (with_reducible repeat (first | refine blk_drewN ?_ _ | refine blk_drew ?_)); exact blk_put BF9.out 1 _ (by simp)⟩,
                    ⟨by repeat (first | exact HB9.out | apply pw_below_drewN | apply below_drew1 | refine below_set ?_ (by have := HGW.out; show _ ≤ gF; omega))⟩⟩
              · rw [if_neg c1] at hd
                obtain rfl := Option.some.inj hd
                clear hd
                have hcz1 : wr.cell? ⟨w.heap.size + 1, 1, none⟩ = some (.int .i64 s.pos) := (blk_cell HI.out.1 1).trans rfl
                have hc0 : wr.cell? ⟨w.heap.size, 0, none⟩ = some (.int .i64 0) := (blk_cell BK.out 0).trans rfl
                have hc1 : wr.cell? ⟨w.heap.size, 1, none⟩ = some (.slice none 0 0) := (blk_cell BK.out 1).trans rfl
                have hf0 := blk_frozen BK.out 0
                have hf1 := blk_frozen BK.out 1
                have hF0 : wr.cell? ⟨gF, 0, none⟩ = some (.int .i64 no) := (blk_cell BF.out 0).trans rfl
                have hF1 : wr.cell? ⟨gF, 1, none⟩ = some v := (blk_cell BF.out 1).trans rfl
                obtain ⟨Av, cv, rfl⟩ := Kd.R_slice HOo.out
                go_wp2_with fail
                go_region
                go_wp2_with fail
                rw [Exit.noGoto_ret]
                refine bodyPost_ret (results_ctt rfl _ _ w.heap.size 24 #[.int .i64 no, .slice Av out.length cv] (0, 0) _ rfl (by (with_reducible repeat (first | refine blk_drewN ?_ _ | refine blk_drew ?_)); exact (blk_put (blk_put BK.out 0 _ rfl) 1 _ rfl)) Tryd.underlying24 rfl (by kernel_rfl)) rfl ?_
                exact ⟨_, rfl, by (with_reducible repeat (first | apply Kd.R_alloc | apply Kd.R_drewN | apply Kd.R_drew)); exact Kd.R_mono (Kd.R_set (Kd.R_set HOo.out BK.out (by decide) 0 _) (blk_put BK.out 0 _ rfl) (by decide) 1 _) (fun _ _ => trivial), by repeat (first | exact HB.out | apply below_alloc | apply pw_below_drewN | apply below_drew1 | refine below_set ?_ (Nat.le_refl _))⟩

end Go.Proofs.YtbanemecfobonaaDoor.B
