/- Written by a program (lite.py, squash.py, join.py) from my texts. -/
import Derived.Test.YtbanemecfobonaaDoorJ2o
import Derived.Deep.DeepCutAuto
import Derived.StillTailTactics
import Derived.Deep.RegionLaw
import Derived.Deep.RegionWith
import Derived.Test.YtbanemecfobonaaDoorJ8o
import Derived.Test.YtbanemecfobonaaDoorJ5o
namespace Go.Proofs.YtbanemecfobonaaDoor.B
open Go.RowKit Go.Proofs.YtbanemecfobonaaDoorW.PrintWords Go.Proofs.YtbanemecfobonaaDoorW.PrintLast Go.Proofs.YtbanemecfobonaaDoorW.PrintMore
set_option linter.unusedVariables false
set_option linter.unusedSimpArgs false
structure Rd where
  pos : Int
  bit : Int
  many : Int
def Rd.step (l : List Int) (s : Rd) : Rd := ⟨s.pos + 1, (put1 s.bit s.many (rd l s.pos)).1, (put1 s.bit s.many (rd l s.pos)).2⟩
def readLoop (l : List Int) : Nat → Rd → List Int → Option (Bool × List Int × Rd)
  | 0, _, _ => none
  | k + 1, s, got =>
    if got.length ≤ 1000 then
    (bus_bytesOf.f 300 got).bind fun n =>
    if (got.length : Int) < wrap64 (34 + wrap64 (8 * n)) then
      (bus_due.f 300 got).bind fun want =>
      if nextOk l s.pos want = true then
        if (s.step l).many = 5 then
          if nextOk l (s.step l).pos (wrap64 (1 - rd l s.pos)) = true then readLoop l k ((s.step l).step l) (got ++ [rd l s.pos])
          else some (false, got ++ [rd l s.pos], s.step l)
        else readLoop l k (s.step l) (got ++ [rd l s.pos])
      else some (false, got, s)
    else some (true, got, s)
    else none
def tailLoop (l : List Int) : List Int → Bool → Rd → Bool × Rd
  | [], ok, s => (ok, s)
  | b :: t, ok, s => if ok = true then (if nextOk l s.pos b = true then tailLoop l t true (s.step l) else tailLoop l t false s) else tailLoop l t false s
def dataLoop (got : List Int) (n : Int) : Nat → Int → List Int → Option (List Int)
  | 0, _, _ => none
  | k + 1, i, out =>
    if i < n then (if 27 + 8 * i ≤ (got.length : Int) then (bus_number.f 300 ((got.take (27 + 8 * i).toNat).drop (19 + 8 * i).toNat)).bind fun x => dataLoop got n k (i + 1) (out ++ [x]) else none) else some out
def bus_Read.f (l : List Int) : Option (Int × List Int × Int × Int) :=
  (bus_binary.f l).bind fun bin => if bin = true then
    (readLoop l 200 ⟨0, 0, 0⟩ []).bind fun q =>
    if (tailLoop l tailD q.1 q.2.2).1 = true then
      (if 12 ≤ q.2.1.length ∧ q.2.1.length ≤ 1000 then
      (bus_number.f 300 ((q.2.1.take 12).drop 1)).bind fun no =>
      (bus_bytesOf.f 300 q.2.1).bind fun n =>
      (dataLoop q.2.1 n 20 0 []).bind fun d => some (no, d, (tailLoop l tailD q.1 q.2.2).2.pos, 0) else none)
    else some (0, [], (tailLoop l tailD q.1 q.2.2).2.pos, 5)
  else some (0, [], 0, 2)
theorem tail_yes {l : List Int} {b : Int} {t : List Int} {s : Rd} (h : nextOk l s.pos b = true) : tailLoop l (b :: t) true s = tailLoop l t true (s.step l) := by simp [tailLoop, h]
theorem tail_no {l : List Int} {b : Int} {t : List Int} {s : Rd} (h : nextOk l s.pos b = false) : tailLoop l (b :: t) true s = tailLoop l t false s := by simp [tailLoop, h]
theorem IsRd.grown2 {w0 W W1 : World} {g : Nat} {A : Option Addr} {n c : Nat} {at_ bit many : Int} {base : Nat} {ok : Nat → Prop} {v : Value} {xs : List Int} (hg : W.grownBy W1 v.ownBlock) (h : IsRd w0 W g A n c at_ bit many) (ho : Kd.R (Kd.int .i64) 3 W base ok v xs) : IsRd w0 W1 g A n c at_ bit many := h.grown hg (h.own_ne ho)
theorem blk_grown2 {W W1 : World} {g : Nat} {cs : Array Value} {ty : TypeId} {base : Nat} {ok : Nat → Prop} {v : Value} {xs : List Int} (hg : W.grownBy W1 v.ownBlock) (h : W.heap[g]? = some (.cells cs ty (0, 0))) (ho : Kd.R (Kd.int .i64) 3 W base ok v xs) (hne : 3 ≠ ty) : W1.heap[g]? = some (.cells cs ty (0, 0)) := blk_grown h hg (Kd.R_ne ho h hne)
theorem nextOk_lt {l : List Int} {a want : Int} (h : nextOk l a want = true) (h1 : 0 ≤ a ∧ a ≤ l.length) : 0 ≤ a + 1 ∧ a + 1 ≤ l.length := by
  have : (a == (l.length : Int)) = false := by
    unfold nextOk at h
    cases e : (a == (l.length : Int))
    · rfl
    · rw [e] at h; simp at h
  have := beq_eq_false_iff_ne.1 this
  omega
set_option maxHeartbeats 8000000 in
set_option maxRecDepth 100000 in
theorem bus_Read.calls (A0 : Option Addr) (c0 : Nat) (l0 : List Int) (r1 : Int) (r2 : List Int) (r3 r4 : Int) (w : World) (hr0 : Kd.C (Kd.int .i64) w A0 l0.length l0) (hc0 : l0.length ≤ c0) (h : bus_Read.f l0 = some (r1, r2, r3, r4)) (ht : TailLaid w) :
    Calls Tryd.prog 20 #[.slice A0 l0.length c0] w fun e w' => ∃ v1_ : Value, e = .returned (.tuple #[.agg #[.int .i64 r1, v1_], .int .i64 r3, .int .i64 r4]) ∧ Kd.R (Kd.int .i64) 3 w' w.heap.size (fun _ => True) v1_ r2 ∧ Below w.heap.size w w' := by
  have HR0 := aM hr0; have HC0 := aM hc0; have HT := aM ht; (have HB := aM (Below.refl w.heap.size w)); have hu24 := Tryd.underlying24; have hu80 := Tryd.underlying80; clear hr0 hc0 ht; (unfold bus_Read.f at h); (obtain ⟨bin, hbin, h⟩ := Option.bind_eq_some_iff.1 h); have HBIN := aM hbin; clear hbin; cases bin
  · simp only [Bool.false_eq_true, if_false, Option.some.injEq, Prod.mk.injEq] at h; obtain ⟨rfl, rfl, rfl, rfl⟩ := h; (go_enter Tryd.func20, Tryd.ntmps20); (go_wp2_with fail); (go_step3); (go_wp2_with (go_at_call 46; refine (bus_binary.calls A0 c0 l0 false _ (Kd.C_alloc HR0.out _) HC0.out HBIN.out).mono ?_; rintro e w' ⟨rfl, ⟨nd, rfl⟩⟩)); rw [Exit.noGoto_ret]; (refine bodyPost_ret (results_ctt rfl _ _ w.heap.size 24 #[.int .i64 0, .slice none 0 0] (0, 0) _ rfl (blk_put (blk_put (kDn (blk_new w _) _) 0 _ rfl) 1 _ rfl) Tryd.underlying24 rfl z5) rfl ?_); (exact ⟨_, rfl, Kd.R_nil _ _ _ _ _, by repeat (first | exact HB.out | apply bAl | apply pBd | apply bD1 | refine below_set ?_ (Nat.le_refl _))⟩)
  rw [if_pos rfl] at h; (obtain ⟨q, hq, h⟩ := Option.bind_eq_some_iff.1 h); have HQ := aM hq; have H := aM h; clear hq h; (go_enter Tryd.func20, Tryd.ntmps20); (go_wp2_with fail); (go_step3); (go_wp2_with (go_at_call 46; refine (bus_binary.calls A0 c0 l0 true _ (Kd.C_alloc HR0.out _) HC0.out HBIN.out).mono ?_; rintro e w' ⟨rfl, ⟨nd, rfl⟩⟩)); (have hI1 : IsRd w (((w.alloc (.cells #[.int .i64 0, .slice none 0 0] 24)).drewN nd).alloc (.cells #[.slice A0 l0.length c0, .int .i64 0, .int .i64 0, .int .i64 0] 80)) (w.heap.size + 1) A0 l0.length c0 0 0 0 := ⟨by simpa using heap_alloc_new ((w.alloc (.cells #[.int .i64 0, .slice none 0 0] 24)).drewN nd) (.cells #[.slice A0 l0.length c0, .int .i64 0, .int .i64 0, .int .i64 0] 80), by omega⟩); have HI := aM hI1; clear hI1; (have HB1 : Aside0 (Below w.heap.size w (((w.alloc (.cells #[.int .i64 0, .slice none 0 0] 24)).drewN nd).alloc (.cells #[.slice A0 l0.length c0, .int .i64 0, .int .i64 0, .int .i64 0] 80))) := ⟨by repeat (first | exact HB.out | apply bAl | apply pBd | apply bD1)⟩); (have BK : Aside0 ((((w.alloc (.cells #[.int .i64 0, .slice none 0 0] 24)).drewN nd).alloc (.cells #[.slice A0 l0.length c0, .int .i64 0, .int .i64 0, .int .i64 0] 80)).heap[w.heap.size]? = some (.cells #[.int .i64 0, .slice none 0 0] 24 (0, 0))) := ⟨kAl (kDn (blk_new w _) _) _⟩); (go_step3); (go_upto_block 0 with (fail)); (go_cut [7, 8] (fun v7 v8 wx => v8 = .bool q.1 ∧ Aside0 (IsRd w wx (w.heap.size + 1) A0 l0.length c0 q.2.2.pos q.2.2.bit q.2.2.many) ∧ Aside0 (0 ≤ q.2.2.pos ∧ q.2.2.pos ≤ l0.length) ∧ Aside0 (Kd.R (Kd.int .i64) 3 wx w.heap.size (fun _ => True) v7 q.2.1) ∧ Aside0 (wx.heap[w.heap.size]? = some (.cells #[.int .i64 0, .slice none 0 0] 24 (0, 0))) ∧ Aside0 (Below w.heap.size w wx)))
  case first =>
   (go_wp2_with fail); (go_outline); (go_loopg [7, 8] 200 (fun gq v7 v8 w' => ∃ (got : List Int) (s : Rd), v8 = .bool true ∧ Aside0 (readLoop l0 gq s got = some q) ∧ Aside0 (IsRd w w' (w.heap.size + 1) A0 l0.length c0 s.pos s.bit s.many) ∧ Aside0 (0 ≤ s.pos ∧ s.pos ≤ l0.length) ∧ Aside0 (Kd.R (Kd.int .i64) 3 w' w.heap.size (fun _ => True) v7 got) ∧ Aside0 (w'.heap[w.heap.size]? = some (.cells #[.int .i64 0, .slice none 0 0] 24 (0, 0))) ∧ Aside0 (Below w.heap.size w w'))); (case atStart => exact ⟨[], ⟨0, 0, 0⟩, rfl, HQ, HI, ⟨by simp⟩, ⟨Kd.R_nil _ _ _ _ _⟩, BK, HB1⟩)
   case round =>
    clear HI HB1 BK HQ; obtain ⟨got, s, rfl, HA, HI, HP, HOg, BK, HB⟩ := hrel; (obtain ⟨Ag, cg, rfl⟩ := Kd.R_slice HOg.out); (have hE47 := enter_of Tryd.func47 z5 rfl); (have HRg := aM (Kd.R_reads' HOg.out).2.2); (have HCg := aM (Kd.R_reads' HOg.out).2.1)
    cases gk with
    | zero => exact absurd HA.out (by simp [readLoop])
    | succ k1 =>
    have ha := HA.out; clear HA; (unfold readLoop at ha); by_cases hgl : got.length ≤ 1000; (case neg => rw [if_neg hgl] at ha; exact absurd ha (by simp)); rw [if_pos hgl] at ha; (obtain ⟨n, hn, ha⟩ := Option.bind_eq_some_iff.1 ha); have HN := aM hn; clear hn; by_cases c1 : (got.length : Int) < wrap64 (34 + wrap64 (8 * n)); rotate_left
    · rw [if_neg c1] at ha; (have c1b : decide ((got.length : Int) < wrap64 (34 + wrap64 (8 * n))) = false := dF c1); (obtain rfl := sI ha); clear c1 ha; (go_wp2_with (go_at_call 48; refine (bus_bytesOf.calls 300 _ _ got n _ z10 HCg.out HN.out).mono ?_; rintro e w' ⟨rfl, ⟨nd1, rfl⟩⟩)); go_meet; (case rel => exact ⟨rfl, ⟨z11⟩, HP, ⟨(rA HOg.out)⟩, ⟨(blkA BK.out)⟩, ⟨z8⟩⟩)
    rw [if_pos c1] at ha; (have c1b : decide ((got.length : Int) < wrap64 (34 + wrap64 (8 * n))) = true := dT c1); (obtain ⟨want, hwant, ha⟩ := Option.bind_eq_some_iff.1 ha); have HW := aM hwant; clear hwant c1; by_cases c2 : nextOk l0 s.pos want = true; rotate_left
    · rw [if_neg c2] at ha; (have HN2 := aM (Bool.eq_false_iff.2 c2)); (obtain rfl := sI ha); clear c2 ha; (go_wp2_with (first | (go_at_call 48; refine (bus_bytesOf.calls 300 _ _ got n _ z10 HCg.out HN.out).mono ?_; rintro e w' ⟨rfl, ⟨nd1, rfl⟩⟩) | (go_at_call 49; refine (bus_due.calls 300 _ _ got want _ z10 HCg.out HW.out).mono ?_; rintro e w' ⟨rfl, ⟨nd2, rfl⟩⟩) | (go_at_call 47; refine (reader_next_no.calls (w.heap.size + 1) A0 c0 l0 s.pos s.bit s.many want w _ z11 z8 (Kd.C_below HR0.out z8) HP.out.1 HP.out.2 HN2.out).mono ?_; rintro e w' ⟨rfl, ⟨nd3, rfl⟩⟩))); go_meet; (case rel => exact ⟨rfl, ⟨z11⟩, HP, ⟨(rA HOg.out)⟩, ⟨(blkA BK.out)⟩, ⟨z8⟩⟩)
    rw [if_pos c2] at ha; have HN2 := aM c2; clear c2; (have HP2 := aM (nextOk_lt HN2.out HP.out)); by_cases c3 : (s.step l0).many = 5; rotate_left
    · rw [if_neg c3] at ha; (have c3b : ((put1 s.bit s.many (rd l0 s.pos)).2 == 5) = false := beq_eq_false_iff_ne.2 c3); have HA := aM ha; clear c3 ha; (go_wp2_with (first | (go_at_call 48; refine (bus_bytesOf.calls 300 _ _ got n _ z10 HCg.out HN.out).mono ?_; rintro e w' ⟨rfl, ⟨nd1, rfl⟩⟩) | (go_at_call 49; refine (bus_due.calls 300 _ _ got want _ z10 HCg.out HW.out).mono ?_; rintro e w' ⟨rfl, ⟨nd2, rfl⟩⟩) | (go_at_call 47; refine (reader_next_yes.calls (w.heap.size + 1) A0 c0 l0 s.pos s.bit s.many want w _ z11 z8 (Kd.C_below HR0.out z8) HP.out.1 HP.out.2 HN2.out).mono ?_; rintro e w2 ⟨rfl, hi2, hb2, hk2⟩; have HI2 := aM hi2; have HB2 := aM hb2; have HK2 := aM hk2; clear hi2 hb2 hk2; have HO2 := aM (IsRd.keep z11 HK2.out (rA HOg.out)); have BK2 := aM (KeepBut.blk HK2.out (blkA BK.out) z3 (by simp))) | ((with_reducible refine gate_builtin (b := .append) (xs := #[.tmp 39, .tmp 41]) rfl ?_); at_builtin; refine Kd.R_append (Kd.int .i64) (w0 := w) w.heap.size rfl (.tmp 39) (.tmp 41) 22 3 (.int .i64 0) 8 rfl Tryd.underlying22 info3 rfl z9 z3 (.slice Ag got.length cg) (got) (rd l0 s.pos) [.int .i64 (rd l0 s.pos)] (fun _ => True) (fun _ => False) rfl rfl ?aP (fun _ hk => hk.elim) ?aF ?aO ?aB ?aS ?aL ?_; (case aP => exact rfl); (case aB => exact HB2.out); (case aF => exact (fun _ _ => trivial)); (case aO => exact HO2.out); (case aS => exact HB2.out.size); (case aL => omega); intro v3 w3 ho1 hb1 hg1 hat1; have HO3 := aM ho1; have HB3 := aM hb1; have HI3 := aM (IsRd.grown HI2.out hg1 (IsRd.own_ne HI2.out HO2.out)); have BK3 := aM (blk_grown BK2.out hg1 (Kd.R_ne HO2.out BK2.out z9)); clear ho1 hb1 hg1 hat1)))
      (go_wp2_with (go_at_call 50; refine (row80_full.calls (w.heap.size + 1) A0 l0.length c0 (s.pos + 1) (put1 s.bit s.many (rd l0 s.pos)).1 (put1 s.bit s.many (rd l0 s.pos)).2 w _ HI3.out).mono ?_; rintro e w' ⟨rfl, ⟨nd4, rfl⟩⟩)); (go_roundg k1); (case measure => omega); (case rel => exact ⟨_, s.step l0, rfl, HA, ⟨(by repeat (first | exact HI3.out | apply IsRd.drewN | apply IsRd.alloc | apply IsRd.drew))⟩, HP2, ⟨(rA HO3.out)⟩, ⟨(blkA BK3.out)⟩, ⟨(by repeat (first | exact HB3.out | apply bAl | apply pBd | apply bD1))⟩⟩)
    rw [if_pos c3] at ha; (have c3b : ((put1 s.bit s.many (rd l0 s.pos)).2 == 5) = true := beq_iff_eq.2 c3); clear c3; by_cases c4 : nextOk l0 (s.step l0).pos (wrap64 (1 - rd l0 s.pos)) = true; rotate_left
    · rw [if_neg c4] at ha; (have HN3 := aM (Bool.eq_false_iff.2 c4)); (obtain rfl := sI ha); clear c4 ha; (go_wp2_with (first | (go_at_call 48; refine (bus_bytesOf.calls 300 _ _ got n _ z10 HCg.out HN.out).mono ?_; rintro e w' ⟨rfl, ⟨nd1, rfl⟩⟩) | (go_at_call 49; refine (bus_due.calls 300 _ _ got want _ z10 HCg.out HW.out).mono ?_; rintro e w' ⟨rfl, ⟨nd2, rfl⟩⟩) | (go_at_call 47; refine (reader_next_yes.calls (w.heap.size + 1) A0 c0 l0 s.pos s.bit s.many want w _ z11 z8 (Kd.C_below HR0.out z8) HP.out.1 HP.out.2 HN2.out).mono ?_; rintro e w2 ⟨rfl, hi2, hb2, hk2⟩; have HI2 := aM hi2; have HB2 := aM hb2; have HK2 := aM hk2; clear hi2 hb2 hk2; have HO2 := aM (IsRd.keep z11 HK2.out (rA HOg.out)); have BK2 := aM (KeepBut.blk HK2.out (blkA BK.out) z3 (by simp))) | ((with_reducible refine gate_builtin (b := .append) (xs := #[.tmp 39, .tmp 41]) rfl ?_); at_builtin; refine Kd.R_append (Kd.int .i64) (w0 := w) w.heap.size rfl (.tmp 39) (.tmp 41) 22 3 (.int .i64 0) 8 rfl Tryd.underlying22 info3 rfl z9 z3 (.slice Ag got.length cg) (got) (rd l0 s.pos) [.int .i64 (rd l0 s.pos)] (fun _ => True) (fun _ => False) rfl rfl ?aP (fun _ hk => hk.elim) ?aF ?aO ?aB ?aS ?aL ?_; (case aP => exact rfl); (case aB => exact HB2.out); (case aF => exact (fun _ _ => trivial)); (case aO => exact HO2.out); (case aS => exact HB2.out.size); (case aL => omega); intro v3 w3 ho1 hb1 hg1 hat1; have HO3 := aM ho1; have HB3 := aM hb1; have HI3 := aM (IsRd.grown HI2.out hg1 (IsRd.own_ne HI2.out HO2.out)); have BK3 := aM (blk_grown BK2.out hg1 (Kd.R_ne HO2.out BK2.out z9)); clear ho1 hb1 hg1 hat1)))
      (go_wp2_with (go_at_call 50; refine (row80_full.calls (w.heap.size + 1) A0 l0.length c0 (s.pos + 1) (put1 s.bit s.many (rd l0 s.pos)).1 (put1 s.bit s.many (rd l0 s.pos)).2 w _ HI3.out).mono ?_; rintro e w' ⟨rfl, ⟨nd4, rfl⟩⟩)); (go_wp2_with (go_at_call 47; refine (reader_next_no.calls (w.heap.size + 1) A0 c0 l0 (s.pos + 1) (put1 s.bit s.many (rd l0 s.pos)).1 (put1 s.bit s.many (rd l0 s.pos)).2 (wrap64 (1 - rd l0 s.pos)) w _ (by repeat (first | exact HI3.out | apply IsRd.drewN | apply IsRd.alloc | apply IsRd.drew)) (by repeat (first | exact HB3.out | apply bAl | apply pBd | apply bD1)) (Kd.C_below HR0.out (by repeat (first | exact HB3.out | apply bAl | apply pBd | apply bD1))) HP2.out.1 HP2.out.2 HN3.out).mono ?_; rintro e w' ⟨rfl, ⟨nd3, rfl⟩⟩)); go_meet; (case rel => exact ⟨rfl, ⟨(by repeat (first | exact HI3.out | apply IsRd.drewN | apply IsRd.alloc | apply IsRd.drew))⟩, HP2, ⟨(rA HO3.out)⟩, ⟨(blkA BK3.out)⟩, ⟨(by repeat (first | exact HB3.out | apply bAl | apply pBd | apply bD1))⟩⟩)
    rw [if_pos c4] at ha; have HN3 := aM c4; have HA := aM ha; (have HP3 := aM (nextOk_lt HN3.out HP2.out)); clear c4 ha; (go_wp2_with (first | (go_at_call 48; refine (bus_bytesOf.calls 300 _ _ got n _ z10 HCg.out HN.out).mono ?_; rintro e w' ⟨rfl, ⟨nd1, rfl⟩⟩) | (go_at_call 49; refine (bus_due.calls 300 _ _ got want _ z10 HCg.out HW.out).mono ?_; rintro e w' ⟨rfl, ⟨nd2, rfl⟩⟩) | (go_at_call 47; refine (reader_next_yes.calls (w.heap.size + 1) A0 c0 l0 s.pos s.bit s.many want w _ z11 z8 (Kd.C_below HR0.out z8) HP.out.1 HP.out.2 HN2.out).mono ?_; rintro e w2 ⟨rfl, hi2, hb2, hk2⟩; have HI2 := aM hi2; have HB2 := aM hb2; have HK2 := aM hk2; clear hi2 hb2 hk2; have HO2 := aM (IsRd.keep z11 HK2.out (rA HOg.out)); have BK2 := aM (KeepBut.blk HK2.out (blkA BK.out) z3 (by simp))) | ((with_reducible refine gate_builtin (b := .append) (xs := #[.tmp 39, .tmp 41]) rfl ?_); at_builtin; refine Kd.R_append (Kd.int .i64) (w0 := w) w.heap.size rfl (.tmp 39) (.tmp 41) 22 3 (.int .i64 0) 8 rfl Tryd.underlying22 info3 rfl z9 z3 (.slice Ag got.length cg) (got) (rd l0 s.pos) [.int .i64 (rd l0 s.pos)] (fun _ => True) (fun _ => False) rfl rfl ?aP (fun _ hk => hk.elim) ?aF ?aO ?aB ?aS ?aL ?_; (case aP => exact rfl); (case aB => exact HB2.out); (case aF => exact (fun _ _ => trivial)); (case aO => exact HO2.out); (case aS => exact HB2.out.size); (case aL => omega); intro v3 w3 ho1 hb1 hg1 hat1; have HO3 := aM ho1; have HB3 := aM hb1; have HI3 := aM (IsRd.grown HI2.out hg1 (IsRd.own_ne HI2.out HO2.out)); have BK3 := aM (blk_grown BK2.out hg1 (Kd.R_ne HO2.out BK2.out z9)); clear ho1 hb1 hg1 hat1)))
    (go_wp2_with (go_at_call 50; refine (row80_full.calls (w.heap.size + 1) A0 l0.length c0 (s.pos + 1) (put1 s.bit s.many (rd l0 s.pos)).1 (put1 s.bit s.many (rd l0 s.pos)).2 w _ HI3.out).mono ?_; rintro e w' ⟨rfl, ⟨nd4, rfl⟩⟩)); (go_wp2_with (go_at_call 47; refine (reader_next_yes.calls (w.heap.size + 1) A0 c0 l0 (s.pos + 1) (put1 s.bit s.many (rd l0 s.pos)).1 (put1 s.bit s.many (rd l0 s.pos)).2 (wrap64 (1 - rd l0 s.pos)) w _ (by repeat (first | exact HI3.out | apply IsRd.drewN | apply IsRd.alloc | apply IsRd.drew)) (by repeat (first | exact HB3.out | apply bAl | apply pBd | apply bD1)) (Kd.C_below HR0.out (by repeat (first | exact HB3.out | apply bAl | apply pBd | apply bD1))) HP2.out.1 HP2.out.2 HN3.out).mono ?_; rintro e w5 ⟨rfl, hi5, hb5, hk5⟩; have HI5 := aM hi5; have HB5 := aM hb5; have HK5 := aM hk5; clear hi5 hb5 hk5; have HO5 := aM (IsRd.keep (by repeat (first | exact HI3.out | apply IsRd.drewN | apply IsRd.alloc | apply IsRd.drew)) HK5.out (rA HO3.out)); have BK5 := aM (KeepBut.blk HK5.out (blkA BK3.out) z3 (by simp)))); (go_roundg k1); (case measure => omega); (case rel => exact ⟨_, (s.step l0).step l0, rfl, HA, HI5, HP3, HO5, BK5, HB5⟩)
  case rest =>
   obtain ⟨rfl, HI2, HP2, HO2, BK2, HB2⟩ := hcut; (obtain ⟨Ag, cg, rfl⟩ := Kd.R_slice HO2.out); obtain ⟨At, ct, hct0, hcl, hrt0⟩ := HT.out; (obtain ⟨adt, e0, hx9⟩ := Kd.at_int hrt0 0 z3 z3); cases e0; clear hx9; have HRT := aM hrt0; (have hct : wc.cell? ⟨0, 0, none⟩ = some (.slice (some adt) 13 ct) := pw_cell_below HB2.out hct0); clear hrt0 hct0 HB HB1 BK HI; (go_wp2_with fail); (go_loopg [8, 58] 13 (fun gq v8 v58 w' => ∃ (x : Int) (ok : Bool) (s : Rd), v8 = .bool ok ∧ v58 = .int .i64 x ∧ 0 ≤ x ∧ x ≤ 13 ∧ Aside0 (gq = 13 - x.toNat) ∧ Aside0 (tailLoop l0 (tailD.drop x.toNat) ok s = tailLoop l0 tailD q.1 q.2.2) ∧ Aside0 (IsRd w w' (w.heap.size + 1) A0 l0.length c0 s.pos s.bit s.many) ∧ Aside0 (0 ≤ s.pos ∧ s.pos ≤ l0.length) ∧ Aside0 (Kd.R (Kd.int .i64) 3 w' w.heap.size (fun _ => True) (.slice Ag q.2.1.length cg) q.2.1) ∧ Aside0 (w'.heap[w.heap.size]? = some (.cells #[.int .i64 0, .slice none 0 0] 24 (0, 0))) ∧ Aside0 (Below w.heap.size w w'))); (case atStart => exact ⟨0, q.1, q.2.2, rfl, rfl, by omega, by omega, ⟨by simp⟩, ⟨by simp⟩, HI2, HP2, HO2, BK2, HB2⟩)
   case round =>
    clear HI2 HP2 HO2 BK2 HB2 hct; obtain ⟨x, ok, s, rfl, rfl, hx0, hx13, HG, HE, HI, HP, HOg, BK, HB⟩ := hrel; by_cases hlt : x < 13
    · (obtain ⟨ad2, e2, hxc⟩ := Kd.at_int (Kd.C_below HRT.out HB.out) x hx0 hlt); cases e2
      have hdrop : tailD.drop x.toNat = rd tailD x :: tailD.drop (x + 1).toNat := by
        have e1 : (x + 1).toNat = x.toNat + 1 := by omega
        have h1 : x.toNat < tailD.length := by rw [tailD_length]; omega
        rw [e1, List.drop_eq_getElem_cons h1]
        congr 1
        simp [rd, List.getD_eq_getElem?_getD, List.getElem?_eq_getElem h1]
      have he := HE.out; rw [hdrop] at he; clear HE hdrop; cases ok
      · (have HE : Aside0 (tailLoop l0 (tailD.drop (x + 1).toNat) false s = tailLoop l0 tailD q.1 q.2.2) := ⟨he⟩); clear he; (go_wp2_with fail); (go_roundg (gk - 1)); (case measure => have := HG.out; omega); (case rel => exact ⟨x + 1, false, s, rfl, rfl, by omega, by omega, ⟨by have := HG.out; omega⟩, HE, HI, HP, HOg, BK, HB⟩)
      by_cases c2 : nextOk l0 s.pos (rd tailD x) = true; rotate_left
      · (have HE : Aside0 (tailLoop l0 (tailD.drop (x + 1).toNat) false s = tailLoop l0 tailD q.1 q.2.2) := ⟨by rw [← he, tail_no (Bool.eq_false_iff.2 c2)]⟩); (have HN := aM (Bool.eq_false_iff.2 c2)); clear he c2; (go_wp2_with (go_at_call 47; refine (reader_next_no.calls (w.heap.size + 1) A0 c0 l0 s.pos s.bit s.many (rd tailD x) w _ z11 z8 (Kd.C_below HR0.out z8) HP.out.1 HP.out.2 HN.out).mono ?_; rintro e w' ⟨rfl, ⟨nd3, rfl⟩⟩)); (go_roundg (gk - 1)); (case measure => have := HG.out; omega); (case rel => exact ⟨x + 1, false, s, rfl, rfl, by omega, by omega, ⟨by have := HG.out; omega⟩, HE, ⟨z11⟩, HP, ⟨(rA HOg.out)⟩, ⟨(blkA BK.out)⟩, ⟨z8⟩⟩)
      (have HE : Aside0 (tailLoop l0 (tailD.drop (x + 1).toNat) true (s.step l0) = tailLoop l0 tailD q.1 q.2.2) := ⟨by rw [← he, tail_yes c2]⟩); have HN := aM c2; clear he c2; (have HP2 := aM (nextOk_lt HN.out HP.out)); (go_wp2_with (go_at_call 47; refine (reader_next_yes.calls (w.heap.size + 1) A0 c0 l0 s.pos s.bit s.many (rd tailD x) w _ z11 z8 (Kd.C_below HR0.out z8) HP.out.1 HP.out.2 HN.out).mono ?_; rintro e w5 ⟨rfl, hi5, hb5, hk5⟩; have HI5 := aM hi5; have HB5 := aM hb5; have HK5 := aM hk5; clear hi5 hb5 hk5; have HO5 := aM (IsRd.keep z11 HK5.out (rA HOg.out)); have BK5 := aM (KeepBut.blk HK5.out (blkA BK.out) z3 (by simp)))); (go_roundg (gk - 1)); (case measure => have := HG.out; omega); (case rel => exact ⟨x + 1, true, s.step l0, rfl, rfl, by omega, by omega, ⟨by have := HG.out; omega⟩, HE, HI5, HP2, HO5, BK5, HB5⟩)
    (have hx : x = 13 := by omega); subst hx; have he := HE.out; (have e13 : tailD.drop (13 : Int).toNat = [] := rfl); rw [e13, tailLoop] at he; have HE2 := aM he.symm; clear HE he e13; have h := H.out; rw [HE2.out] at h; cases ok
    · simp only [Bool.false_eq_true, if_false, Option.some.injEq, Prod.mk.injEq] at h; obtain ⟨rfl, rfl, rfl, rfl⟩ := h; (have hcz1 : wr.cell? ⟨w.heap.size + 1, 1, none⟩ = some (.int .i64 s.pos) := (bCl HI.out.1 1).trans rfl); (have hc0 : wr.cell? ⟨w.heap.size, 0, none⟩ = some (.int .i64 0) := (bCl BK.out 0).trans rfl); (have hc1 : wr.cell? ⟨w.heap.size, 1, none⟩ = some (.slice none 0 0) := (bCl BK.out 1).trans rfl); (have hf0 := bFr BK.out 0); (have hf1 := bFr BK.out 1); (go_wp2_with fail); (go_region); (go_wp2_with fail); rw [Exit.noGoto_ret]; (refine bodyPost_ret (results_ctt rfl _ _ w.heap.size 24 #[.int .i64 0, .slice none 0 0] (0, 0) _ rfl (by (with_reducible repeat (first | refine kDn ?_ _ | refine kDr ?_)); exact (blk_put (blk_put BK.out 0 _ rfl) 1 _ rfl)) Tryd.underlying24 rfl z5) rfl ?_); (exact ⟨_, rfl, Kd.R_nil _ _ _ _ _, by repeat (first | exact HB.out | apply bAl | apply pBd | apply bD1 | refine below_set ?_ (Nat.le_refl _))⟩)
    rw [if_pos rfl] at h; by_cases hgl : 12 ≤ q.2.1.length ∧ q.2.1.length ≤ 1000; (case neg => rw [if_neg hgl] at h; exact absurd h (by simp)); rw [if_pos hgl] at h; (obtain ⟨no, hno, h⟩ := Option.bind_eq_some_iff.1 h); (obtain ⟨n, hn, h⟩ := Option.bind_eq_some_iff.1 h); (obtain ⟨d, hd, h⟩ := Option.bind_eq_some_iff.1 h); simp only [Option.some.injEq, Prod.mk.injEq] at h; obtain ⟨rfl, rfl, rfl, rfl⟩ := h; have HNO := aM hno; have HN := aM hn; have HD := aM hd; (have hg12 : (12 : Int) ≤ q.2.1.length := by omega); (have hg1000 : (q.2.1.length : Int) ≤ 1000 := by omega); clear hno hd hn hgl; (obtain ⟨i05, hi05, _, hsz5, _⟩ := info_parts info3); (obtain ⟨A5, hcut5, hA5, hC5⟩ := print_mid_of (P := Tryd.prog) (Value.int .i64) 0 22 3 .i64 .i64 Tryd.underlying22 hi05 hsz5 Ag cg q.2.1 1 12 z3 z3 hg12 (Kd.R_reads' HOg.out).2.1); (have HR5 := aM (Kd.C_of_reads (h1 := fun _ => rfl) (hA5 _ (Kd.reads_of_C (Kd.R_reads' HOg.out).2.2)))); have HC5 := aM hC5; clear hA5 hC5 hi05 hsz5; (have hl5 : ((q.2.1.take (12 : Int).toNat).drop (1 : Int).toNat).length = 11 := by simp; omega); rw [hl5] at hcut5; (have hN51 := bus_number.calls 300 A5 (cg - 1) _ no wr HR5.out HC5.out HNO.out); rw [hl5] at hN51; have HN51 := aM hN51; clear hN51; (go_wp2_with fail); (refine HN51.out.mono ?_); (rintro e w5 ⟨rfl, hd5⟩); have hb5 := hd5.below; (have HI5 := aM (IsRd.below HI.out hb5)); (have HO5 := aM (Kd.R_below HOg.out hb5)); (have BK5 := aM (kBl BK.out hb5)); (have HB5 := aM (bSt HB.out hb5))
    clear hb5 hd5 HI HOg BK HB HR5 HC5 HN51 hcut5 hl5; (go_wp2_with fail); (have h48 := bus_bytesOf.calls 300 Ag cg q.2.1 n (w5.alloc (.cells #[.int .i64 no, .slice none 0 0] 24)) (Kd.C_alloc (Kd.R_reads' HO5.out).2.2 _) (Kd.R_reads' HO5.out).2.1 HN.out); (refine h48.mono ?_); clear h48; (rintro e w6 ⟨rfl, hd6⟩); have hb6 := hd6.below; (have HI6 := aM (IsRd.below (IsRd.alloc HI5.out _) hb6)); (have HO6 := aM (Kd.R_below (Kd.R_alloc HO5.out _) hb6)); (have BK6 := aM (kBl (kAl BK5.out _) hb6)); (have BF6 := aM (kBl (blk_new w5 (.cells #[.int .i64 no, .slice none 0 0] 24)) hb6)); (have HB6 := aM (bSt (bAl HB5.out _) hb6)); (obtain ⟨gF, hgF⟩ : ∃ gF, gF = w5.heap.size := ⟨_, rfl⟩); (have hgw : w.heap.size + 1 < gF := by rw [hgF]; exact blk_lt HI5.out.1); have HGW := aM hgw; rw [← hgF] at BF6; rw [← hgF]; clear hd6 hb6 hgw HI5 HO5 BK5 HB5 hgF; (go_wp2_with fail); (go_loopg [83] 20 (fun gq v83 w' => ∃ (i : Int) (out : List Int) (v : Value), v83 = .int .i64 i ∧ 0 ≤ i ∧ Aside0 (dataLoop q.2.1 n gq i out = some d) ∧ Aside0 (out.length ≤ i) ∧ Aside0 (IsRd w w' (w.heap.size + 1) A0 l0.length c0 s.pos s.bit s.many) ∧ Aside0 (Kd.R (Kd.int .i64) 3 w' w.heap.size (fun k_ => True ∧ some k_ ≠ (v : Value).ownBlock) (.slice Ag q.2.1.length cg) q.2.1) ∧ Aside0 (Kd.R (Kd.int .i64) 3 w' w.heap.size (fun k_ => some k_ ≠ (.slice Ag q.2.1.length cg : Value).ownBlock) v out) ∧ Aside0 (w'.heap[w.heap.size]? = some (.cells #[.int .i64 0, .slice none 0 0] 24 (0, 0))) ∧ Aside0 (w'.heap[gF]? = some (.cells #[.int .i64 no, v] 24 (0, 0))) ∧ Aside0 (Below w.heap.size w w')))
    (case atStart => exact ⟨0, [], _, rfl, by omega, HD, ⟨by simp⟩, HI6, ⟨Kd.R_mono HO6.out (fun _ hk => ⟨trivial, by simp [Value.ownBlock]⟩)⟩, ⟨Kd.R_nil _ _ _ _ _⟩, BK6, BF6, HB6⟩)
    case round =>
     clear HI6 HO6 BK6 BF6 HB6 HD; obtain ⟨i, out, v, rfl, hi0, HD, HL, HI, HOg, HOo, BK, BF, HB⟩ := hrel
     cases gk with
     | zero => exact absurd HD.out (by simp [dataLoop])
     | succ k1 =>
     have hd := HD.out; clear HD; (unfold dataLoop at hd); by_cases c1 : i < n; rotate_left
     · rw [if_neg c1] at hd; (obtain rfl := sI hd); clear hd; (have hcz1 : wr.cell? ⟨w.heap.size + 1, 1, none⟩ = some (.int .i64 s.pos) := (bCl HI.out.1 1).trans rfl); (have hc0 : wr.cell? ⟨w.heap.size, 0, none⟩ = some (.int .i64 0) := (bCl BK.out 0).trans rfl); (have hc1 : wr.cell? ⟨w.heap.size, 1, none⟩ = some (.slice none 0 0) := (bCl BK.out 1).trans rfl); (have hf0 := bFr BK.out 0); (have hf1 := bFr BK.out 1); (have hF0 : wr.cell? ⟨gF, 0, none⟩ = some (.int .i64 no) := (bCl BF.out 0).trans rfl); (have hF1 : wr.cell? ⟨gF, 1, none⟩ = some v := (bCl BF.out 1).trans rfl); (obtain ⟨Av, cv, rfl⟩ := Kd.R_slice HOo.out); (go_wp2_with fail); (go_region); (go_wp2_with fail); rw [Exit.noGoto_ret]; (refine bodyPost_ret (results_ctt rfl _ _ w.heap.size 24 #[.int .i64 no, .slice Av out.length cv] (0, 0) _ rfl (by (with_reducible repeat (first | refine kDn ?_ _ | refine kDr ?_)); exact (blk_put (blk_put BK.out 0 _ rfl) 1 _ rfl)) Tryd.underlying24 rfl z5) rfl ?_); (exact ⟨_, rfl, by (with_reducible repeat (first | apply Kd.R_alloc | apply Kd.R_drewN | apply Kd.R_drew)); exact Kd.R_mono (Kd.R_set (Kd.R_set HOo.out BK.out z9 0 _) (blk_put BK.out 0 _ rfl) z9 1 _) (fun _ _ => trivial), by repeat (first | exact HB.out | apply bAl | apply pBd | apply bD1 | refine below_set ?_ (Nat.le_refl _))⟩)
     rw [if_pos c1] at hd; by_cases c2 : 27 + 8 * i ≤ (q.2.1.length : Int); (case neg => rw [if_neg c2] at hd; exact absurd hd (by simp)); rw [if_pos c2] at hd; (obtain ⟨x, hx, hd⟩ := Option.bind_eq_some_iff.1 hd); have HX := aM hx; have HD := aM hd; clear hx hd; (obtain ⟨Av, cv, rfl⟩ := Kd.R_slice HOo.out); (have hF0 : wr.cell? ⟨gF, 0, none⟩ = some (.int .i64 no) := (bCl BF.out 0).trans rfl); (have hF1 : wr.cell? ⟨gF, 1, none⟩ = some (.slice Av out.length cv) := (bCl BF.out 1).trans rfl); (have hFa : ∀ n o, ((wr.drewN n).alloc o).cell? ⟨gF, 1, none⟩ = some (.slice Av out.length cv) := fun n o => (bCl (kAl (kDn BF.out n) o) 1).trans rfl); (have hff1 := bFr BF.out 1); (go_wp2_with fail); (have hwx1 : IntKind.i64.wrap (8 * i) = 8 * i := IntWalk.i64_in _ z3); (have hwx2 : IntKind.i64.wrap (19 + 8 * i) = 19 + 8 * i := IntWalk.i64_in _ z3); (have hwx3 : IntKind.i64.wrap (27 + 8 * i) = 27 + 8 * i := IntWalk.i64_in _ z3); (obtain ⟨i05, hi05, _, hsz5, _⟩ := info_parts info3); (obtain ⟨A6, hcut6, hA6, hC6⟩ := print_mid_of (P := Tryd.prog) (Value.int .i64) 0 22 3 .i64 .i64 Tryd.underlying22 hi05 hsz5 Ag cg q.2.1 (19 + 8 * i) (27 + 8 * i) z3 z3 c2 (Kd.R_reads' HOg.out).2.1); (have HR6 := aM (Kd.C_of_reads (h1 := fun _ => rfl) (hA6 _ (Kd.reads_of_C (Kd.R_reads' HOg.out).2.2)))); have HC6 := aM hC6; (have H51 := aM (fun W hW => bus_number.calls 300 A6 (cg - (19 + 8 * i).toNat) _ x W hW HC6.out HX.out)); clear hA6 hC6 hi05 hsz5; (go_region_law (first | (refine goes_ Tryd.func51 z5 rfl #[.slice A6 ((q.2.1.take (27 + 8 * i).toNat).drop (19 + 8 * i).toNat).length (cg - (19 + 8 * i).toNat)] (by rfl) rfl rfl (by simp [Act.eval, Act.put] <;> omega) ?_; refine (H51.out _ ?hc8).mono ?_; (case hc8 => exact (by repeat (first | exact HR6.out | (with_reducible refine Kd.C_drewN ?_ _) | (with_reducible refine Kd.C_alloc ?_ _) | (with_reducible refine Kd.C_drew ?_)))); rintro e w' ⟨rfl, ⟨nd8, rfl⟩⟩; refine ⟨_, rfl, ?_⟩) | (refine Kd.R_append_step (Kd.int .i64) (w0 := w) w.heap.size (by rfl) (.tmp 87) (.tmp 97) 22 3 (.int .i64 0) 8 rfl Tryd.underlying22 info3 rfl z9 z3 (.slice Av out.length cv) out x [.int .i64 x] (fun k_ => some k_ ≠ (.slice Ag q.2.1.length cg : Value).ownBlock) (fun _ => False) rfl rfl ?aP (fun _ hk => hk.elim) ?aF ?aO ?aB ?aS ?aL ?_; (case aP => exact rfl); (case aB => exact z8); (case aF => exact (fun k_ hk => Kd.fresh' (Kd.R_lt (rA HOg.out)) k_ hk)); (case aO => exact (rA HOo.out)); (case aS => exact bSz z8); (case aL => have := HL.out; omega); intro v9 w9 ho9 hb9 hg9 hat9; obtain ⟨A9, c9, rfl⟩ := Kd.R_slice ho9; have HO9 := aM ho9; have HB9 := aM hb9; have HOg9 := aM (Kd.R_after (ok := fun _ => True) (rA HOg.out) hg9 hat9); have HI9 := aM (IsRd.grown2 hg9 z11 (rA HOo.out)); have BK9 := aM (blk_grown2 hg9 (blkA BK.out) (rA HOo.out) z9); have BF9 := aM (blk_grown2 hg9 (blkA BF.out) (rA HOo.out) z9); clear ho9 hb9 hg9 hat9; have hF91 : w9.cell? ⟨gF, 1, none⟩ = some (.slice Av out.length cv) := (bCl BF9.out 1).trans rfl; have hff91 := bFr BF9.out 1)))
     all_goals
       go_wp2_with fail
       go_roundg k1
       case measure => omega
       case rel => exact ⟨i + 1, out ++ [x], .slice A9 (out ++ [x]).length c9, rfl, by omega, HD, ⟨by have := HL.out; simp; omega⟩,
         ⟨by (repeat (first | apply IsRd.drewN | apply IsRd.drew)); exact ⟨blk_far HI9.out.1 (by have := HGW.out; show _ ≠ gF; omega) _, HI9.out.2⟩⟩,
         ⟨by (with_reducible repeat (first | apply Kd.R_drewN | apply Kd.R_drew)); exact Kd.R_set HOg9.out BF9.out z9 1 _⟩,
         ⟨by (with_reducible repeat (first | apply Kd.R_drewN | apply Kd.R_drew)); exact Kd.R_set HO9.out BF9.out z9 1 _⟩,
         ⟨by (with_reducible repeat (first | refine kDn ?_ _ | refine kDr ?_)); exact blk_far BK9.out (by have := HGW.out; show _ ≠ gF; omega) _⟩,
         ⟨by (with_reducible repeat (first | refine kDn ?_ _ | refine kDr ?_)); exact blk_put BF9.out 1 _ (by simp)⟩,
         ⟨by repeat (first | exact HB9.out | apply pBd | apply bD1 | refine below_set ?_ (by have := HGW.out; show _ ≤ gF; omega))⟩⟩
def w8_alive.f : Option Bool := some true
theorem alive_wins : bus_Wins.f [(⟨5, []⟩ : S24), ⟨4, []⟩] = some (1, 13, 0) := by decide +kernel
theorem fixQ_of (g : Int → Int) (k : Nat) (t : Int) (r : Int × Bool) (hk : k ≤ 10000002) (h : fixF g k t = some r) : fixQ g t = r := by
  unfold fixQ
  rw [fuelN_eq, fixF_le g k t r h 10000002 hk]; rfl
theorem alive_delay : bus_Delay.f [(⟨1, 8, 1000, 0⟩ : S55)] 1 = some (135, 0) := by
  have e1 : fixQ (busyN 0 ⟨1, 8, 1000, 0⟩ []) 1 = (135, true) := fixQ_of _ 3 _ _ z9 (by decide +kernel)
  have e2 : fixQ (waitN 0 0 ⟨1, 8, 1000, 0⟩ []) 0 = (0, true) := fixQ_of _ 3 _ _ z9 (by decide +kernel)
  have e3 : delayD ⟨1, 8, 1000, 0⟩ [] 0 = (135, true) := by
    unfold delayD
    rw [if_neg (by decide +kernel), e1, if_neg (by decide +kernel)]
    show waitD 0 ⟨1, 8, 1000, 0⟩ [] (0 + 1) 0 0 0 = _
    simp only [waitD]
    rw [e2]
    decide +kernel
  unfold bus_Delay.f delaySpec
  rw [if_neg (by decide +kernel), if_neg (by decide +kernel)]
  show some (if (delayD ⟨1, 8, 1000, 0⟩ [] 0).2 = false then ((0 : Int), (10 : Int)) else ((delayD ⟨1, 8, 1000, 0⟩ [] 0).1, 0)) = _
  rw [e3]; rfl
def aliveBits : List Int := ((bus_Bits.f 3 [255]).getD ([], 1)).1
theorem alive_bits : bus_Bits.f 3 [255] = some (aliveBits, 0) := by decide +kernel
theorem alive_read : bus_Read.f aliveBits = some (3, [255], (aliveBits.length : Int), 0) := by decide +kernel
theorem alive_same : w8_same.f 3 [255] [255] = some true := by decide +kernel
set_option maxHeartbeats 8000000 in
set_option maxRecDepth 100000 in
theorem w8_alive.calls (r : Bool) (w : World) (h : w8_alive.f = some r) (ht : TailLaid w) :
    Calls Tryd.prog 16 #[] w fun e w' => e = .returned (.bool r) ∧ Below w.heap.size w w' := by
  have HT := aM ht; clear ht; have hu24 := Tryd.underlying24; have hu55 := Tryd.underlying55; (have HB := aM (Below.refl w.heap.size w)); (obtain ⟨y108, hy108⟩ : ∃ y_ : List (S24), y_ = (([(⟨5, ([] : List Int)⟩ : S24), (⟨4, ([] : List Int)⟩ : S24)] : List (S24))) := ⟨_, rfl⟩); have Ny108 := aM hy108; (obtain ⟨t111, e111⟩ : ∃ t : Int, t = 1 := ⟨_, rfl⟩); (obtain ⟨t112, e112⟩ : ∃ t : Int, t = 13 := ⟨_, rfl⟩); (obtain ⟨t113, e113⟩ : ∃ t : Int, t = 0 := ⟨_, rfl⟩); (have A1 : Aside0 (bus_Wins.f y108 = some (t111, t112, t113)) := ⟨by rw [hy108, e111, e112, e113]; exact alive_wins⟩); (obtain ⟨y114, hy114⟩ : ∃ y_ : List (S55), y_ = (([(⟨1, 8, 1000, 0⟩ : S55)] : List (S55))) := ⟨_, rfl⟩); have Ny114 := aM hy114; (obtain ⟨t117, e117⟩ : ∃ t : Int, t = 135 := ⟨_, rfl⟩); (obtain ⟨t118, e118⟩ : ∃ t : Int, t = 0 := ⟨_, rfl⟩); (have A2 : Aside0 (bus_Delay.f y114 1 = some (t117, t118)) := ⟨by rw [hy114, e117, e118]; exact alive_delay⟩); (obtain ⟨y119, hy119⟩ : ∃ y_ : List Int, y_ = (([255] : List Int)) := ⟨_, rfl⟩); have Ny119 := aM hy119; (obtain ⟨t122, e122⟩ : ∃ t : List Int, t = aliveBits := ⟨_, rfl⟩); (obtain ⟨t125, e125⟩ : ∃ t : Int, t = 0 := ⟨_, rfl⟩); (have A3 : Aside0 (bus_Bits.f 3 y119 = some (t122, t125)) := ⟨by rw [hy119, e122, e125]; exact alive_bits⟩); (obtain ⟨t126, e126⟩ : ∃ t : Int, t = 3 := ⟨_, rfl⟩); (obtain ⟨t127, e127⟩ : ∃ t : List Int, t = [255] := ⟨_, rfl⟩); (obtain ⟨t130, e130⟩ : ∃ t : Int, t = (t122.length : Int) := ⟨_, rfl⟩); (obtain ⟨t131, e131⟩ : ∃ t : Int, t = 0 := ⟨_, rfl⟩); (have A4 : Aside0 (bus_Read.f t122 = some (t126, t127, t130, t131)) := ⟨by rw [e130, e122, e126, e127, e131]; exact alive_read⟩)
  (obtain ⟨y133, hy133⟩ : ∃ y_ : List Int, y_ = (([255] : List Int)) := ⟨_, rfl⟩); have Ny133 := aM hy133; (obtain ⟨t136, e136⟩ : ∃ t : Bool, t = true := ⟨_, rfl⟩); (obtain ⟨k, ek⟩ : ∃ t : Nat, t = 3 := ⟨_, rfl⟩); (have A14 : Aside0 (w8_same.f k t127 y133 = some t136) := ⟨by rw [ek, e127, hy133, e136]; exact alive_same⟩); (have c5b0 : (t113 == 0) = true := beq_iff_eq.mpr e113); (have c5b1 : (t113 != 0) = false := bne_eq_false_iff_eq.mpr e113); (have c6b0 : (t111 == 1) = true := beq_iff_eq.mpr e111); (have c6b1 : (t111 != 1) = false := bne_eq_false_iff_eq.mpr e111); (have c7b0 : (t112 == 13) = true := beq_iff_eq.mpr e112); (have c7b1 : (t112 != 13) = false := bne_eq_false_iff_eq.mpr e112); (have c8b0 : (t118 == 0) = true := beq_iff_eq.mpr e118); (have c8b1 : (t118 != 0) = false := bne_eq_false_iff_eq.mpr e118); (have c9b0 : (t117 == 135) = true := beq_iff_eq.mpr e117); (have c9b1 : (t117 != 135) = false := bne_eq_false_iff_eq.mpr e117); (have c10b0 : (t125 == 0) = true := beq_iff_eq.mpr e125); (have c10b1 : (t125 != 0) = false := bne_eq_false_iff_eq.mpr e125); (have c11b0 : (t131 == 0) = true := beq_iff_eq.mpr e131); (have c11b1 : (t131 != 0) = false := bne_eq_false_iff_eq.mpr e131); (have c12b0 : (t130 == (t122.length : Int)) = true := beq_iff_eq.mpr e130); (have c12b1 : (t130 != (t122.length : Int)) = false := bne_eq_false_iff_eq.mpr e130); (have c13b0 : (t126 == 3) = true := beq_iff_eq.mpr e126); (have c13b1 : (t126 != 3) = false := bne_eq_false_iff_eq.mpr e126); (obtain rfl : t136 = r := e136.trans (sI h))
  clear h e111 e112 e113 e117 e118 e122 e125 e126 e127 e130 e131 e136 ek hy108 hy114 hy119 hy133; (go_enter Tryd.func16, Tryd.ntmps16); (go_wp2_with (first | ((with_reducible refine gate_dst (N := 14) rfl ?_); (try (refine gate_guard (by rfl) ?_; dsimp only)); refine Kd.S_lit k24 _ 24 ?hg (N := 14) ?hd (xs := ([(⟨5, ([] : List Int)⟩ : S24), (⟨4, ([] : List Int)⟩ : S24)] : List (S24))) (inner := [.int .i64 5, .slice none 0 0, .int .i64 4, .slice none 0 0]) (ok := fun _ => True) (okp := fun _ => True) ?hr ?hp (fun _ hk => hk) trivial (Below.refl _ _) (Nat.le_refl _) (by simp) ?_; (case hd => rfl); (case hg => rfl); (case hr => first | (go_simp; done) | (go_simp; rfl)); (case hp => exact (Reps.c2 (show Kd.M k24 _ _ _ (⟨5, ([] : List Int)⟩ : S24) [.int .i64 5, .slice none 0 0] from (k24_mkM _ _ _ (⟨5, ([] : List Int)⟩ : S24) (Kd.R_nil _ _ _ _ _))) (Reps.c2 (show Kd.M k24 _ _ _ (⟨4, ([] : List Int)⟩ : S24) [.int .i64 4, .slice none 0 0] from (k24_mkM _ _ _ (⟨4, ([] : List Int)⟩ : S24) (Kd.R_nil _ _ _ _ _))) (Reps.none _ _)))); intro v109 w15 ho16 hb hg_ hnew_; clear hg_ hnew_; (first | rw [← Ny108.out] at ho16 | (simp only [Int.reduceToNat] at ho16; rw [← Ny108.out] at ho16)); have HO110 := aM (Kd.S_lower ho16 (bSz bel0)); replace HB := aM (bSt bel0 hb); clear hb ho16; obtain ⟨Ao17, co17, eo17⟩ := Kd.S_slice HO110.out; subst eo17) | ((with_reducible refine gate_callee (f := 22) rfl ?_); refine goesL_ (some 15) rfl rfl Tryd.func22 z5 rfl #[.slice Ao17 y108.length co17] rfl z1 ?_; (with_reducible refine (bus_Wins.calls _ _ y108 t111 t112 t113 _ ?side1 ?side2 A1.out (TailLaid.below HT.out bel0)).mono ?_); (case side1 => exact cA (Kd.S_reads' HO110.out).2.2); (case side2 => exact (Kd.S_reads' HO110.out).2.1); rintro e w18 ⟨rfl, hb⟩; refine ⟨_, rfl, ?_⟩; replace HO110 := aM (Kd.S_below (by (with_reducible repeat (first | apply Kd.S_alloc | apply Kd.S_drewN | apply Kd.S_drew)); exact HO110.out) hb); replace HB := aM (bSt bel0 hb); (try clear hb); (try clear hb2); (try clear hk); (try clear hi)) | ((with_reducible refine gate_dst (N := 21) rfl ?_); (try (refine gate_guard (by rfl) ?_; dsimp only)); refine Kd.R_lit k55 _ 55 ?hg (N := 21) ?hd (xs := ([(⟨1, 8, 1000, 0⟩ : S55)] : List (S55))) (inner := [.int .i64 1, .int .i64 8, .int .i64 1000, .int .i64 0]) (ok := fun _ => True) (okp := fun _ => True) ?hr ?hp (fun _ hk => hk) trivial (Below.refl _ _) (Nat.le_refl _) (by simp) ?_; (case hd => rfl); (case hg => rfl); (case hr => first | (go_simp; done) | (go_simp; rfl)); (case hp => exact (Reps.c4 (show Kd.M k55 _ _ _ (⟨1, 8, 1000, 0⟩ : S55) [.int .i64 1, .int .i64 8, .int .i64 1000, .int .i64 0] from (k55_mkM _ _ _ (⟨1, 8, 1000, 0⟩ : S55) )) (Reps.none _ _))); intro v115 w19 ho20 hb hg_ hnew_; clear hg_ hnew_; (first | rw [← Ny114.out] at ho20 | (simp only [Int.reduceToNat] at ho20; rw [← Ny114.out] at ho20)); replace HO110 := aM (Kd.S_below (by (with_reducible repeat (first | apply Kd.S_alloc | apply Kd.S_drewN | apply Kd.S_drew)); exact HO110.out) hb); have HO116 := aM (Kd.R_lower ho20 (bSz bel0)); replace HB := aM (bSt bel0 hb); clear hb ho20; obtain ⟨Ao21, co21, eo21⟩ := Kd.R_slice HO116.out; subst eo21) | ((with_reducible refine gate_callee (f := 30) rfl ?_); refine goesL_ (some 22) rfl rfl Tryd.func30 z5 rfl #[.slice Ao21 y114.length co21, .int .i64 1] rfl z1 ?_; (with_reducible refine (bus_Delay.calls _ _ y114 1 t117 t118 _ ?side1 ?side2 A2.out).mono ?_); (case side1 => exact cA (Kd.R_reads' HO116.out).2.2); (case side2 => exact (Kd.R_reads' HO116.out).2.1); rintro e w22 ⟨rfl, hb⟩; refine ⟨_, rfl, ?_⟩; replace HO110 := aM (Kd.S_below (by (with_reducible repeat (first | apply Kd.S_alloc | apply Kd.S_drewN | apply Kd.S_drew)); exact HO110.out) hb); replace HO116 := aM (Kd.R_below (rA HO116.out) hb); replace HB := aM (bSt bel0 hb); (try clear hb); (try clear hb2); (try clear hk); (try clear hi)) | ((with_reducible refine gate_dst (N := 26) rfl ?_); (try (refine gate_guard (by rfl) ?_; dsimp only)); refine Kd.R_lit (Kd.int .i64) _ 3 ?hg (N := 26) ?hd (xs := ([255] : List Int)) (inner := [.int .i64 255]) (ok := fun _ => True) (okp := fun _ => True) ?hr ?hp (fun _ hk => hk) trivial (Below.refl _ _) (Nat.le_refl _) (by simp) ?_; (case hd => rfl); (case hg => rfl); (case hr => first | (go_simp; done) | (go_simp; rfl)); (case hp => exact (Reps.one (show Kd.M (Kd.int .i64) _ _ _ 255 [.int .i64 255] from rfl) (Reps.none _ _))); intro v120 w23 ho24 hb hg_ hnew_; clear hg_ hnew_; (first | rw [← Ny119.out] at ho24 | (simp only [Int.reduceToNat] at ho24; rw [← Ny119.out] at ho24)); replace HO110 := aM (Kd.S_elder' (by (with_reducible repeat (first | apply Kd.S_alloc | apply Kd.S_drewN | apply Kd.S_drew)); exact HO110.out) (Kd.R_base ho24) hb); replace HO116 := aM (Kd.R_below (rA HO116.out) hb); have HO121 := aM (Kd.R_lower ho24 (bSz bel0)); replace HB := aM (bSt bel0 hb); clear hb ho24; obtain ⟨Ao25, co25, eo25⟩ := Kd.R_slice HO121.out; subst eo25) | ((with_reducible refine gate_callee (f := 18) rfl ?_); refine goesL_ (some 28) rfl rfl Tryd.func18 z5 rfl #[.agg #[.int .i64 3, .slice Ao25 y119.length co25]] rfl z1 ?_; (with_reducible refine (bus_Bits.calls 3 _ _ y119 t122 t125 _ ?side1 ?side2 A3.out (TailLaid.below HT.out bel0)).mono ?_); (case side1 => exact cA (Kd.R_reads' HO121.out).2.2); (case side2 => exact (Kd.R_reads' HO121.out).2.1); rintro e w26 ⟨v123, rfl, ho0, hb⟩; refine ⟨_, rfl, ?_⟩; replace HO110 := aM (Kd.S_elder' (by (with_reducible repeat (first | apply Kd.S_alloc | apply Kd.S_drewN | apply Kd.S_drew)); exact HO110.out) (Kd.R_base ho0) hb); replace HO116 := aM (Kd.R_below (rA HO116.out) hb); have HO124 := aM (Kd.R_lower (Kd.R_new' ho0 (Kd.R_lt (rA HO121.out))) (bSz bel0)); replace HO121 := aM (Kd.R_elder' (rA HO121.out) (Kd.R_base ho0) hb); replace HB := aM (bSt bel0 hb); (try clear hb); (try clear hb2); (try clear hk); (try clear hi); (try clear ho0); obtain ⟨Ao27, co27, eo27⟩ := Kd.R_slice HO124.out; subst eo27) | ((with_reducible refine gate_callee (f := 20) rfl ?_); refine goesL_ (some 33) rfl rfl Tryd.func20 z5 rfl #[.slice Ao27 t122.length co27] rfl z1 ?_; (with_reducible refine (bus_Read.calls _ _ t122 t126 t127 t130 t131 _ ?side1 ?side2 A4.out (TailLaid.below HT.out bel0)).mono ?_); (case side1 => exact cA (Kd.R_reads' HO124.out).2.2); (case side2 => exact (Kd.R_reads' HO124.out).2.1); rintro e w28 ⟨v128, rfl, ho0, hb⟩; refine ⟨_, rfl, ?_⟩; replace HO110 := aM (Kd.S_elder' (by (with_reducible repeat (first | apply Kd.S_alloc | apply Kd.S_drewN | apply Kd.S_drew)); exact HO110.out) (Kd.R_base ho0) hb); replace HO116 := aM (Kd.R_below (rA HO116.out) hb); have HO129 := aM (Kd.R_lower (Kd.R_new' (Kd.R_new' ho0 (Kd.R_lt (rA HO121.out))) (Kd.R_lt (rA HO124.out))) (bSz bel0)); replace HO121 := aM (Kd.R_elder' (rA HO121.out) (Kd.R_base ho0) hb); replace HO124 := aM (Kd.R_elder' (rA HO124.out) (Kd.R_base ho0) hb); replace HB := aM (bSt bel0 hb); (try clear hb); (try clear hb2); (try clear hk); (try clear hi); (try clear ho0)) | ((with_reducible refine gate_dst (N := 8) rfl ?_); (try (refine gate_guard (by rfl) ?_; dsimp only)); refine box_event ?hg (N := 8) ?hd (cs := #[.int .i64 0, .slice none 0 0]) (t := 24) ?hr ?_; (case hd => rfl); (case hg => rfl); (case hr => first | (go_simp; done) | (go_simp; rfl)); intro gb132 hg w29 hbox hb; replace HO110 := aM (Kd.S_below (Kd.S_elderB (by (with_reducible repeat (first | apply Kd.S_alloc | apply Kd.S_drewN | apply Kd.S_drew)); exact HO110.out) gb132 (Nat.le_of_eq hg.symm)) hb); replace HO116 := aM (Kd.R_below (rA HO116.out) hb); replace HO121 := aM (Kd.R_below (rA HO121.out) hb); replace HO124 := aM (Kd.R_below (rA HO124.out) hb); replace HO129 := aM (Kd.R_below (rA HO129.out) hb); have BK132 := aM (hbox); have GW132 := aM (geB hg : w.heap.size ≤ gb132); have GE132 := aM (geB hg : w.heap.size ≤ gb132); replace HB := aM (bSt bel0 hb); clear hb hbox hg; obtain ⟨hcz30_0, hcz30_1, hfz30_0, hfz30_1⟩ := bk2 BK132.out; obtain ⟨Ao31, co31, eo31⟩ := Kd.R_slice HO129.out; subst eo31) | ((with_reducible refine gate_dst (N := 77) rfl ?_); (try (refine gate_guard (by rfl) ?_; dsimp only)); refine Kd.R_lit (Kd.int .i64) _ 3 ?hg (N := 77) ?hd (xs := ([255] : List Int)) (inner := [.int .i64 255]) (ok := fun _ => True) (okp := fun _ => True) ?hr ?hp (fun _ hk => hk) trivial (Below.refl _ _) (Nat.le_refl _) (by simp) ?_; (case hd => rfl); (case hg => rfl); (case hr => first | (go_simp; done) | (go_simp; rfl)); (case hp => exact (Reps.one (show Kd.M (Kd.int .i64) _ _ _ 255 [.int .i64 255] from rfl) (Reps.none _ _))); intro v134 w32 ho33 hb hg_ hnew_; clear hg_ hnew_; (first | rw [← Ny133.out] at ho33 | (simp only [Int.reduceToNat] at ho33; rw [← Ny133.out] at ho33)); replace HO110 := aM (Kd.S_elder' (by (with_reducible repeat (first | apply Kd.S_alloc | apply Kd.S_drewN | apply Kd.S_drew)); exact (Kd.S_mono (Kd.S_far (p := ⟨gb132, 1, none⟩) (Kd.S_far (p := ⟨gb132, 0, none⟩) (Kd.S_mono HO110.out (fun k_ hk => (⟨hk, hk.2⟩ : _ ∧ k_ ≠ gb132))) (fun _ hk => hk.2) (.int .i64 t126)) (fun _ hk => hk.2) (.slice Ao31 t127.length co31)) (fun _ h_ => h_.1))) (Kd.R_base ho33) hb); replace HO116 := aM (Kd.R_below (by (with_reducible repeat (first | apply Kd.R_alloc | apply Kd.R_drewN | apply Kd.R_drew)); exact (Kd.R_mono (Kd.R_far (p := ⟨gb132, 1, none⟩) (Kd.R_far (p := ⟨gb132, 0, none⟩) (Kd.R_types HO116.out BK132.out z9) (fun _ hk => hk.2) (.int .i64 t126)) (fun _ hk => hk.2) (.slice Ao31 t127.length co31)) (fun _ h_ => h_.1))) hb); have HO135 := aM (Kd.R_lower (Kd.R_new' (Kd.R_new' (Kd.R_new' ho33 (Kd.R_lt (by (with_reducible repeat (first | apply Kd.R_alloc | apply Kd.R_drewN | apply Kd.R_drew)); exact (Kd.R_mono (Kd.R_far (p := ⟨gb132, 1, none⟩) (Kd.R_far (p := ⟨gb132, 0, none⟩) (Kd.R_types HO121.out BK132.out z9) (fun _ hk => hk.2) (.int .i64 t126)) (fun _ hk => hk.2) (.slice Ao31 t127.length co31)) (fun _ h_ => h_.1))))) (Kd.R_lt (by (with_reducible repeat (first | apply Kd.R_alloc | apply Kd.R_drewN | apply Kd.R_drew)); exact (Kd.R_mono (Kd.R_far (p := ⟨gb132, 1, none⟩) (Kd.R_far (p := ⟨gb132, 0, none⟩) (Kd.R_types HO124.out BK132.out z9) (fun _ hk => hk.2) (.int .i64 t126)) (fun _ hk => hk.2) (.slice Ao31 t127.length co31)) (fun _ h_ => h_.1))))) (Kd.R_lt (by (with_reducible repeat (first | apply Kd.R_alloc | apply Kd.R_drewN | apply Kd.R_drew)); exact (Kd.R_mono (Kd.R_far (p := ⟨gb132, 1, none⟩) (Kd.R_far (p := ⟨gb132, 0, none⟩) (Kd.R_types HO129.out BK132.out z9) (fun _ hk => hk.2) (.int .i64 t126)) (fun _ hk => hk.2) (.slice Ao31 t127.length co31)) (fun _ h_ => h_.1))))) (bSz bel0)); replace HO121 := aM (Kd.R_elder' (by (with_reducible repeat (first | apply Kd.R_alloc | apply Kd.R_drewN | apply Kd.R_drew)); exact (Kd.R_mono (Kd.R_far (p := ⟨gb132, 1, none⟩) (Kd.R_far (p := ⟨gb132, 0, none⟩) (Kd.R_types HO121.out BK132.out z9) (fun _ hk => hk.2) (.int .i64 t126)) (fun _ hk => hk.2) (.slice Ao31 t127.length co31)) (fun _ h_ => h_.1))) (Kd.R_base ho33) hb); replace HO124 := aM (Kd.R_elder' (by (with_reducible repeat (first | apply Kd.R_alloc | apply Kd.R_drewN | apply Kd.R_drew)); exact (Kd.R_mono (Kd.R_far (p := ⟨gb132, 1, none⟩) (Kd.R_far (p := ⟨gb132, 0, none⟩) (Kd.R_types HO124.out BK132.out z9) (fun _ hk => hk.2) (.int .i64 t126)) (fun _ hk => hk.2) (.slice Ao31 t127.length co31)) (fun _ h_ => h_.1))) (Kd.R_base ho33) hb); replace HO129 := aM (Kd.R_elder' (by (with_reducible repeat (first | apply Kd.R_alloc | apply Kd.R_drewN | apply Kd.R_drew)); exact (Kd.R_mono (Kd.R_far (p := ⟨gb132, 1, none⟩) (Kd.R_far (p := ⟨gb132, 0, none⟩) (Kd.R_types HO129.out BK132.out z9) (fun _ hk => hk.2) (.int .i64 t126)) (fun _ hk => hk.2) (.slice Ao31 t127.length co31)) (fun _ h_ => h_.1))) (Kd.R_base ho33) hb); replace BK132 := aM (kBl (g := gb132) (o := .cells #[.int .i64 t126, .slice Ao31 t127.length co31] 24 (0, 0)) (by (with_reducible repeat (first | refine kDn ?_ _ | refine kDr ?_ | refine kAl ?_ _)); refine blk_put (cs := #[.int .i64 t126, .slice none 0 0]) ?_ 1 _ rfl; (with_reducible repeat (first | refine kDn ?_ _ | refine kDr ?_ | refine kAl ?_ _)); refine blk_put (cs := #[.int .i64 0, .slice none 0 0]) ?_ 0 _ rfl; (with_reducible repeat (first | refine kDn ?_ _ | refine kDr ?_ | refine kAl ?_ _)); exact BK132.out) hb); replace HB := aM (bSt bel0 hb); clear hb ho33; obtain ⟨Ao34, co34, eo34⟩ := Kd.R_slice HO135.out; subst eo34) | (go_at_call 19; (with_reducible refine (w8_same.calls k _ _ t127 _ _ y133 t136 _ ?side1 ?side2 ?side3 ?side4 A14.out).mono ?_); (case side1 => exact cA (Kd.R_reads' HO129.out).2.2); (case side2 => exact (Kd.R_reads' HO129.out).2.1); (case side3 => exact cA (Kd.R_reads' HO135.out).2.2); (case side4 => exact (Kd.R_reads' HO135.out).2.1); rintro e w' ⟨rfl, ⟨nd, rfl⟩⟩)))
  go_ret; (exact ⟨by first | rfl | (simp [errW_none, errW_some] <;> rfl) | (simp [*, errW_none, errW_some] <;> rfl), bel0⟩)
end Go.Proofs.YtbanemecfobonaaDoor.B
namespace Go.Proofs.YtbanemecfobonaaDoor.B
open Go.RowKit Go.Proofs.YtbanemecfobonaaDoorW.PrintWords Go.Proofs.YtbanemecfobonaaDoorW.PrintLast Go.Proofs.YtbanemecfobonaaDoorW.PrintMore
attribute [local go_sem] max2_int min2_int max_two min_two max_three min_three max_four min_four
set_option linter.unusedVariables false
set_option linter.unusedSimpArgs false
def w8_BusOrders.j0 : Nat → List (S55) → List Int → Bool → Option (Bool)
  | 0, _, _, _ => none
  | k + 1, x0, x1, x16 => if x16 = true then ((w8_alive.f).bind fun t766 => (some t766)) else ((bus_Order.f x0 x1).bind fun bt767 => ((r8_Order.f k x0 x1).bind fun bt771 => ((w8_same.f k bt767.1 bt771.1).bind fun t775 => (if t775 = true then (if bt767.2 = bt771.2 then ((w8_alive.f).bind fun t776 => (some t776)) else (some false)) else (some false)))))
def w8_BusOrders.f (k : Nat) (l0 : List (S55)) (l1 : List Int) : Option (Bool) := if (l0.length : Int) > 20 then (w8_BusOrders.j0 k l0 l1 true) else (w8_BusOrders.j0 k l0 l1 (decide ((l1.length : Int) > 20)))
set_option maxHeartbeats 8000000 in
set_option maxRecDepth 100000 in
theorem w8_BusOrders.calls (k : Nat) (A0 : Option Addr) (c0 : Nat) (l0 : List (S55)) (A1 : Option Addr) (c1 : Nat) (l1 : List Int) (r : Bool) (w : World) (hr0 : Kd.C k55 w A0 l0.length l0) (hc0 : l0.length ≤ c0) (hr1 : Kd.C (Kd.int .i64) w A1 l1.length l1) (hc1 : l1.length ≤ c1) (h : w8_BusOrders.f k l0 l1 = some r) (ht : TailLaid w) :
    Calls Tryd.prog 12 #[.slice A0 l0.length c0, .slice A1 l1.length c1] w fun e w' => e = .returned (.bool r) ∧ Below w.heap.size w w' := by
  have HT := aM ht; clear ht; have HR0 := aM hr0; have HC0 := aM hc0; clear hr0 hc0; have HR1 := aM hr1; have HC1 := aM hc1; clear hr1 hc1; (have HB := aM (Below.refl w.heap.size w)); (have H : (if (l0.length : Int) > 20 then (w8_BusOrders.j0 k l0 l1 true) else (w8_BusOrders.j0 k l0 l1 (decide ((l1.length : Int) > 20)))) = some r := h); clear h; have HC3 := aM H; clear H; (go_enter Tryd.func12, Tryd.ntmps12); (go_upto_region 1 with (fail)); (go_cut [16] (fun v16 wc => ∃ (kq : Nat) (x16_2 : Bool), v16 = .bool x16_2 ∧ Aside0 (w8_BusOrders.j0 kq l0 l1 x16_2 = some r) ∧ Aside0 (kq ≤ k) ∧ Aside0 (Below w.heap.size w wc)))
  case first =>
   have H := HC3.out; clear HC3; by_cases c4 : (l0.length : Int) > 20
   · rw [if_pos c4] at H; (have c4b0 : decide (20 < (l0.length : Int)) = true := dT c4); (have c4b1 : decide (20 < l0.length) = true := dT z3); clear c4; ((first | rw [c4b0] | (simp only [i64_w, i32_w]; rw [c4b0]) | skip)); have H' := aM H; clear H; go_wp2; go_meet; (case rel => exact ⟨_, (true), z4, H', ⟨by first | omega | exact Nat.le_refl _⟩, ⟨bel0⟩⟩)
   rw [if_neg c4] at H; (have c4b0 : decide (20 < (l0.length : Int)) = false := dF c4); (have c4b1 : decide (20 < l0.length) = false := dF z3); clear c4; ((first | rw [c4b0] | (simp only [i64_w, i32_w]; rw [c4b0]) | skip)); have H' := aM H; clear H; go_wp2; go_meet; (case rel => exact ⟨_, (decide ((l1.length : Int) > 20)), z4, H', ⟨by first | omega | exact Nat.le_refl _⟩, ⟨bel0⟩⟩)
  case rest =>
   clear HC3; (try clear c1); (try clear p2); (try clear c4); (try clear c4b0); (try clear c4b1); obtain ⟨kq, x16_2, rfl, HA, HJ2, HB⟩ := hcut
   cases kq with
   | zero => exact absurd HA.out (by simp [w8_BusOrders.j0])
   | succ kj2 =>
    have H := HA.out; clear HA; simp only [w8_BusOrders.j0] at H; by_cases c5 : x16_2 = true
    · subst c5; (have H1 : ((w8_alive.f).bind fun t766 => (some t766)) = some r := by rw [if_pos rfl] at H; exact H); clear H; have H := H1; clear H1; (replace H := oB H); obtain ⟨t766, A60, H⟩ := H; (replace H : (some t766) = some r := H); have A6 := aM A60; clear A60; (obtain rfl := sI H); (go_wp2_with (first | ((with_reducible refine gate_callee (f := 16) rfl ?_); refine goesL_ (some 17) rfl rfl Tryd.func16 z5 rfl #[] rfl z1 ?_; (with_reducible refine (w8_alive.calls  t766 _ A6.out (TailLaid.below HT.out bel0)).mono ?_); rintro e w7 ⟨rfl, hb⟩; refine ⟨_, rfl, ?_⟩; replace HB := aM (bSt bel0 hb); (try clear hb); (try clear hb2); (try clear hk); (try clear hi)))); go_ret; (exact ⟨by first | rfl | (simp [errW_none, errW_some] <;> rfl) | (simp [*, errW_none, errW_some] <;> rfl), bel0⟩)
    (replace c5 := Bool.eq_false_iff.mpr c5); subst c5; (have H1 : ((bus_Order.f l0 l1).bind fun bt767 => ((r8_Order.f kj2 l0 l1).bind fun bt771 => ((w8_same.f kj2 bt767.1 bt771.1).bind fun t775 => (if t775 = true then (if bt767.2 = bt771.2 then ((w8_alive.f).bind fun t776 => (some t776)) else (some false)) else (some false))))) = some r := by rw [if_neg (show ¬ (false = true) by decide)] at H; exact H); clear H; have H := H1; clear H1; (replace H := oB H); obtain ⟨⟨t767, t768⟩, A80, H⟩ := H; (replace H : ((r8_Order.f kj2 l0 l1).bind fun bt771 => ((w8_same.f kj2 t767 bt771.1).bind fun t775 => (if t775 = true then (if t768 = bt771.2 then ((w8_alive.f).bind fun t776 => (some t776)) else (some false)) else (some false)))) = some r := H); have A8 := aM A80; clear A80; (replace H := oB H); obtain ⟨⟨t771, t772⟩, A90, H⟩ := H; (replace H : ((w8_same.f kj2 t767 t771).bind fun t775 => (if t775 = true then (if t768 = t772 then ((w8_alive.f).bind fun t776 => (some t776)) else (some false)) else (some false))) = some r := H); have A9 := aM A90; clear A90; (replace H := oB H); obtain ⟨t775, A100, H⟩ := H; (replace H : (if t775 = true then (if t768 = t772 then ((w8_alive.f).bind fun t776 => (some t776)) else (some false)) else (some false)) = some r := H); have A10 := aM A100; clear A100; by_cases c11 : t775 = true; rotate_left
    · (replace c11 := Bool.eq_false_iff.mpr c11); subst c11; (have H1 : (some false) = some r := by rw [if_neg (show ¬ (false = true) by decide)] at H; exact H); clear H; have H := H1; clear H1; (obtain rfl := sI H); (go_wp2_with (first | ((with_reducible refine gate_callee (f := 37) rfl ?_); refine goesL_ (some 21) rfl rfl Tryd.func37 z5 rfl #[.slice A0 l0.length c0, .slice A1 l1.length c1] rfl z1 ?_; (with_reducible refine (bus_Order.calls _ _ l0 _ _ l1 t767 t768 _ ?side1 ?side2 ?side3 ?side4 A8.out).mono ?_); (case side1 => exact cA (Kd.C_below HR0.out HB.out)); (case side2 => exact HC0.out); (case side3 => exact cA (Kd.C_below HR1.out HB.out)); (case side4 => exact HC1.out); rintro e w23 ⟨v769, rfl, ho0, hb⟩; refine ⟨_, rfl, ?_⟩; have HO770 := aM (Kd.R_lower ho0 (bSz bel0)); replace HB := aM (bSt bel0 hb); (try clear hb); (try clear hb2); (try clear hk); (try clear hi); (try clear ho0)) | ((with_reducible refine gate_callee (f := 38) rfl ?_); refine goesL_ (some 27) rfl rfl Tryd.func38 z5 rfl #[.slice A0 l0.length c0, .slice A1 l1.length c1] rfl z1 ?_; (with_reducible refine (r8_Order.calls kj2 _ _ l0 _ _ l1 t771 t772 _ ?side1 ?side2 ?side3 ?side4 A9.out).mono ?_); (case side1 => exact cA (Kd.C_below HR0.out HB.out)); (case side2 => exact HC0.out); (case side3 => exact cA (Kd.C_below HR1.out HB.out)); (case side4 => exact HC1.out); rintro e w24 ⟨v773, rfl, ho0, hb⟩; refine ⟨_, rfl, ?_⟩; have HO774 := aM (Kd.R_lower (Kd.R_new' ho0 (Kd.R_lt (rA HO770.out))) (bSz bel0)); replace HO770 := aM (Kd.R_elder' (rA HO770.out) (Kd.R_base ho0) hb); replace HB := aM (bSt bel0 hb); (try clear hb); (try clear hb2); (try clear hk); (try clear hi); (try clear ho0); obtain ⟨Ao25, co25, eo25⟩ := Kd.R_slice HO770.out; subst eo25; obtain ⟨Ao26, co26, eo26⟩ := Kd.R_slice HO774.out; subst eo26) | ((with_reducible refine gate_callee (f := 19) rfl ?_); refine goesL_ (some 32) rfl rfl Tryd.func19 z5 rfl #[.slice Ao25 t767.length co25, .slice Ao26 t771.length co26] rfl z1 ?_; (with_reducible refine (w8_same.calls kj2 _ _ t767 _ _ t771 false _ ?side1 ?side2 ?side3 ?side4 A10.out).mono ?_); (case side1 => exact cA (Kd.R_reads' HO770.out).2.2); (case side2 => exact (Kd.R_reads' HO770.out).2.1); (case side3 => exact cA (Kd.R_reads' HO774.out).2.2); (case side4 => exact (Kd.R_reads' HO774.out).2.1); rintro e w' ⟨rfl, ⟨nd, rfl⟩⟩; refine ⟨_, rfl, ?_⟩)))
      go_ret; (exact ⟨by first | rfl | (simp [errW_none, errW_some] <;> rfl) | (simp [*, errW_none, errW_some] <;> rfl), bel0⟩)
    subst c11; (have H1 : (if t768 = t772 then ((w8_alive.f).bind fun t776 => (some t776)) else (some false)) = some r := by rw [if_pos rfl] at H; exact H); clear H; have H := H1; clear H1; by_cases c12 : t768 = t772; rotate_left
    · rw [if_neg c12] at H; (have c12b0 : (t768 == t772) = false := beq_eq_false_iff_ne.mpr c12); (have c12b1 : (t768 != t772) = true := bne_iff_ne.mpr c12); (obtain rfl := sI H); (go_wp2_with (first | ((with_reducible refine gate_callee (f := 37) rfl ?_); refine goesL_ (some 21) rfl rfl Tryd.func37 z5 rfl #[.slice A0 l0.length c0, .slice A1 l1.length c1] rfl z1 ?_; (with_reducible refine (bus_Order.calls _ _ l0 _ _ l1 t767 t768 _ ?side1 ?side2 ?side3 ?side4 A8.out).mono ?_); (case side1 => exact cA (Kd.C_below HR0.out HB.out)); (case side2 => exact HC0.out); (case side3 => exact cA (Kd.C_below HR1.out HB.out)); (case side4 => exact HC1.out); rintro e w19 ⟨v769, rfl, ho0, hb⟩; refine ⟨_, rfl, ?_⟩; have HO770 := aM (Kd.R_lower ho0 (bSz bel0)); replace HB := aM (bSt bel0 hb); (try clear hb); (try clear hb2); (try clear hk); (try clear hi); (try clear ho0)) | ((with_reducible refine gate_callee (f := 38) rfl ?_); refine goesL_ (some 27) rfl rfl Tryd.func38 z5 rfl #[.slice A0 l0.length c0, .slice A1 l1.length c1] rfl z1 ?_; (with_reducible refine (r8_Order.calls kj2 _ _ l0 _ _ l1 t771 t772 _ ?side1 ?side2 ?side3 ?side4 A9.out).mono ?_); (case side1 => exact cA (Kd.C_below HR0.out HB.out)); (case side2 => exact HC0.out); (case side3 => exact cA (Kd.C_below HR1.out HB.out)); (case side4 => exact HC1.out); rintro e w20 ⟨v773, rfl, ho0, hb⟩; refine ⟨_, rfl, ?_⟩; have HO774 := aM (Kd.R_lower (Kd.R_new' ho0 (Kd.R_lt (rA HO770.out))) (bSz bel0)); replace HO770 := aM (Kd.R_elder' (rA HO770.out) (Kd.R_base ho0) hb); replace HB := aM (bSt bel0 hb); (try clear hb); (try clear hb2); (try clear hk); (try clear hi); (try clear ho0); obtain ⟨Ao21, co21, eo21⟩ := Kd.R_slice HO770.out; subst eo21; obtain ⟨Ao22, co22, eo22⟩ := Kd.R_slice HO774.out; subst eo22) | ((with_reducible refine gate_callee (f := 19) rfl ?_); refine goesL_ (some 32) rfl rfl Tryd.func19 z5 rfl #[.slice Ao21 t767.length co21, .slice Ao22 t771.length co22] rfl z1 ?_; (with_reducible refine (w8_same.calls kj2 _ _ t767 _ _ t771 true _ ?side1 ?side2 ?side3 ?side4 A10.out).mono ?_); (case side1 => exact cA (Kd.R_reads' HO770.out).2.2); (case side2 => exact (Kd.R_reads' HO770.out).2.1); (case side3 => exact cA (Kd.R_reads' HO774.out).2.2); (case side4 => exact (Kd.R_reads' HO774.out).2.1); rintro e w' ⟨rfl, ⟨nd, rfl⟩⟩; refine ⟨_, rfl, ?_⟩)))
      go_ret; (exact ⟨by first | rfl | (simp [errW_none, errW_some] <;> rfl) | (simp [*, errW_none, errW_some] <;> rfl), bel0⟩)
    rw [if_pos c12] at H; (have c12b0 : (t768 == t772) = true := beq_iff_eq.mpr c12); (have c12b1 : (t768 != t772) = false := bne_eq_false_iff_eq.mpr c12); clear c12; (replace H := oB H); obtain ⟨t776, A130, H⟩ := H; (replace H : (some t776) = some r := H); have A13 := aM A130; clear A130; (obtain rfl := sI H); (go_wp2_with (first | ((with_reducible refine gate_callee (f := 37) rfl ?_); refine goesL_ (some 21) rfl rfl Tryd.func37 z5 rfl #[.slice A0 l0.length c0, .slice A1 l1.length c1] rfl z1 ?_; (with_reducible refine (bus_Order.calls _ _ l0 _ _ l1 t767 t768 _ ?side1 ?side2 ?side3 ?side4 A8.out).mono ?_); (case side1 => exact cA (Kd.C_below HR0.out HB.out)); (case side2 => exact HC0.out); (case side3 => exact cA (Kd.C_below HR1.out HB.out)); (case side4 => exact HC1.out); rintro e w14 ⟨v769, rfl, ho0, hb⟩; refine ⟨_, rfl, ?_⟩; have HO770 := aM (Kd.R_lower ho0 (bSz bel0)); replace HB := aM (bSt bel0 hb); (try clear hb); (try clear hb2); (try clear hk); (try clear hi); (try clear ho0)) | ((with_reducible refine gate_callee (f := 38) rfl ?_); refine goesL_ (some 27) rfl rfl Tryd.func38 z5 rfl #[.slice A0 l0.length c0, .slice A1 l1.length c1] rfl z1 ?_; (with_reducible refine (r8_Order.calls kj2 _ _ l0 _ _ l1 t771 t772 _ ?side1 ?side2 ?side3 ?side4 A9.out).mono ?_); (case side1 => exact cA (Kd.C_below HR0.out HB.out)); (case side2 => exact HC0.out); (case side3 => exact cA (Kd.C_below HR1.out HB.out)); (case side4 => exact HC1.out); rintro e w15 ⟨v773, rfl, ho0, hb⟩; refine ⟨_, rfl, ?_⟩; have HO774 := aM (Kd.R_lower (Kd.R_new' ho0 (Kd.R_lt (rA HO770.out))) (bSz bel0)); replace HO770 := aM (Kd.R_elder' (rA HO770.out) (Kd.R_base ho0) hb); replace HB := aM (bSt bel0 hb); (try clear hb); (try clear hb2); (try clear hk); (try clear hi); (try clear ho0); obtain ⟨Ao16, co16, eo16⟩ := Kd.R_slice HO770.out; subst eo16; obtain ⟨Ao17, co17, eo17⟩ := Kd.R_slice HO774.out; subst eo17) | ((with_reducible refine gate_callee (f := 19) rfl ?_); refine goesL_ (some 32) rfl rfl Tryd.func19 z5 rfl #[.slice Ao16 t767.length co16, .slice Ao17 t771.length co17] rfl z1 ?_; (with_reducible refine (w8_same.calls kj2 _ _ t767 _ _ t771 true _ ?side1 ?side2 ?side3 ?side4 A10.out).mono ?_); (case side1 => exact cA (Kd.R_reads' HO770.out).2.2); (case side2 => exact (Kd.R_reads' HO770.out).2.1); (case side3 => exact cA (Kd.R_reads' HO774.out).2.2); (case side4 => exact (Kd.R_reads' HO774.out).2.1); rintro e w' ⟨rfl, ⟨nd, rfl⟩⟩; refine ⟨_, rfl, ?_⟩) | (go_at_call 16; (with_reducible refine (w8_alive.calls  t776 _ A13.out (TailLaid.below HT.out bel0)).mono ?_); rintro e w18 ⟨rfl, hb⟩; replace HO770 := aM (Kd.R_below (rA HO770.out) hb); replace HO774 := aM (Kd.R_below (rA HO774.out) hb); replace HB := aM (bSt bel0 hb); (try clear hb); (try clear hb2); (try clear hk); (try clear hi))))
    go_ret; (exact ⟨by first | rfl | (simp [errW_none, errW_some] <;> rfl) | (simp [*, errW_none, errW_some] <;> rfl), bel0⟩)
end Go.Proofs.YtbanemecfobonaaDoor.B
namespace Go.Proofs.YtbanemecfobonaaDoor.B
open Go.RowKit Go.Proofs.YtbanemecfobonaaDoorW.PrintWords Go.Proofs.YtbanemecfobonaaDoorW.PrintLast Go.Proofs.YtbanemecfobonaaDoorW.PrintMore
set_option linter.unusedVariables false
set_option linter.unusedSimpArgs false
set_option linter.unusedSectionVars false
def GoneB (g : List Bool) (Q : Nat → Bool) (n : Nat) : Prop := g.length = n ∧ ∀ t, t < n → rdOf false g (t : Int) = !Q t
theorem rdOf_nat (g : List Bool) (t : Nat) : rdOf false g (t : Int) = g.getD t false := rfl
theorem GoneB.set {g : List Bool} {Q : Nat → Bool} {n : Nat} (h : GoneB g Q n) {i : Nat} (hi : i < n) : GoneB (g.set i true) (fun t => Q t && t != i) n := by
  refine ⟨by rw [List.length_set]; exact h.1, fun t ht => ?_⟩
  have h2 := h.2 t ht
  rw [rdOf_nat] at h2 ⊢
  rw [List.getD_eq_getElem?_getD, List.getElem?_set]
  by_cases e : i = t
  · subst e
    rw [if_pos rfl, if_pos (by rw [h.1]; exact hi)]
    simp
  · rw [if_neg e, ← List.getD_eq_getElem?_getD, h2]
    have : (t != i) = true := by simpa using fun h => e h.symm
    show (!Q t) = !(Q t && t != i)
    rw [this, Bool.and_true]
theorem GoneB.none (n : Nat) : GoneB (List.replicate n false) (fun _ => true) n := by
  refine ⟨List.length_replicate, fun t ht => ?_⟩
  rw [rdOf_nat, List.getD_eq_getElem?_getD, List.getElem?_replicate, if_pos ht]; rfl
section
variable (l : List S55) (lims : List Int) (hl : OkL l) (h8 : l.length ≤ 8) (hlim : lims.length = l.length)
include hl h8 hlim
theorem ord_l3 {g : List Bool} {Q : Nat → Bool} (hG : GoneB g Q l.length) (b : Int) (out : List Int) (at_ : Int) (i : Nat) (hi : i < l.length) (r : Option (List Int × Int))
    (H : EvS (fun k => r8_Order.l3 k l lims g b out at_ (i : Int) (selL l (fun t => Q t && t != i) l.length) (l.length : Int)) r) :
    ∀ m p : Nat, l.length - p = m → p ≤ l.length → EvS (fun k => r8_Order.l3 k l lims g b out at_ (i : Int) (selL l (fun t => Q t && t != i) p) (p : Int)) r
  | 0, p, hm, hp => by
    obtain rfl : p = l.length := by omega
    exact H
  | m + 1, p, hm, hp => by
    have ih := ord_l3 hG b out at_ i hi r H m (p + 1) z3 z3
    have hlen := selL_len l (fun t => Q t && t != i) p
    refine ih.succ 0 fun k _ => ?_
    show r8_Order.l3 (k + 1) l lims g b out at_ (i : Int) (selL l (fun t => Q t && t != i) p) (p : Int) = _
    rw [r8_Order.l3, if_pos z3, nNx p z3]
    simp only [selL]
    by_cases c : p = i
    · subst c
      rw [if_pos rfl, if_neg (show ¬ (Q p && p != p) = true by simp)]
    · have e : (p != i) = true := by simpa using c
      rw [if_neg z3, if_pos z3, if_pos (by rw [hG.1]; omega), hG.2 p z3]
      by_cases hQ : Q p = true
      · rw [if_neg (show ¬ (!Q p) = true by rw [hQ]; decide), if_pos z3, if_pos (show (Q p && p != i) = true by rw [hQ, e]; rfl)]
      · rw [if_pos (show (!Q p) = true by simpa using hQ), if_neg (show ¬ (Q p && p != i) = true by simp [hQ])]
theorem ord_at {g : List Bool} {Q : Nat → Bool} (hG : GoneB g Q l.length) (b : Int) (hb0 : 0 ≤ b) (hb1 : b ≤ 135) (out : List Int) (i : Nat) (hi : i < l.length) (r : Option (List Int × Int))
    (H : EvS (fun k => r8_Order.l2 k l lims g b out (if canB l lims Q b i = true then (i : Int) else -1) ((i + 1 : Nat) : Int)) r) :
    EvS (fun k => r8_Order.j4 k l lims g b out (-1) (i : Int) true) r := by
  (have hn := nNx i z3); (cases hQ : Q i)
  · have e : canB l lims Q b i = false := by
      cases h : canB l lims Q b i
      · rfl
      · rw [canB_Q h] at hQ; cases hQ
    rw [e, if_neg (by simp)] at H; (refine H.succ 0 fun k _ => ?_); (show r8_Order.j4 (k + 1) l lims g b out (-1) (i : Int) true = _); (rw [r8_Order.j4, if_pos rfl, if_pos z3, if_pos (by rw [hG.1]; omega), hG.2 i hi, hQ, if_pos (show (!false) = true by decide), hn])
  (have hw := selL_ok l (fun t => Q t && t != i) l.length hl l.length (Nat.le_refl _)); (have hlen := selL_len l (fun t => Q t && t != i) l.length); (obtain ⟨d, hd, hd2, hd3⟩ := rdelay_val (rd_T55 l (i : Int)) (selL l (fun t => Q t && t != i) l.length) b (hl i hi) hw z3 hb0 hb1); obtain ⟨K, hK⟩ := hd
  have key : EvS (fun k => r8_Order.l3 k l lims g b out (-1) (i : Int) (selL l (fun t => Q t && t != i) l.length) (l.length : Int)) r := by
    refine H.succ K fun k hk => ?_
    have hK : r8_delay.f k _ _ _ _ _ _ = some d := hK k hk
    show r8_Order.l3 (k + 1) l lims g b out (-1) (i : Int) (selL l (fun t => Q t && t != i) l.length) (l.length : Int) = _
    rw [r8_Order.l3, if_neg z3, if_pos z3, if_pos z3, hK, Option.bind_some, hn]
    unfold canB dlP
    rw [hQ, Bool.true_and, ← hd2]
    cases h2 : d.2
    · rw [if_neg z9, if_neg (by simp)]
    · rw [if_pos rfl, if_pos z3, ← hd3 h2, Bool.true_and]
      by_cases c : d.1 ≤ rd lims (i : Int)
      · rw [if_pos c, if_pos (dT c)]
      · rw [if_neg c, if_neg (by simpa using c)]
  (have := ord_l3 l lims hl h8 hlim hG b out (-1) i hi r key l.length 0 z3 z3); (refine this.succ 0 fun k _ => ?_); (show r8_Order.j4 (k + 1) l lims g b out (-1) (i : Int) true = _); (rw [r8_Order.j4, if_pos rfl, if_pos z3, if_pos (by rw [hG.1]; omega), hG.2 i hi, hQ, if_neg (show ¬ (!true) = true by decide)]); rfl
theorem ord_found {g : List Bool} {Q : Nat → Bool} (hG : GoneB g Q l.length) (b : Int) (out : List Int) (hout : out.length ≤ 100) (t : Nat) (ht : t < l.length) (p : Nat) (r : Option (List Int × Int))
    (H : EvS (fun k => r8_Order.l1 k l lims (g.set t true) (max b (bitsM (rd_T55 l (t : Int)))) ((t : Int) :: out)) r) :
    EvS (fun k => r8_Order.l2 k l lims g b out (t : Int) (p : Int)) r := by
  have key : EvS (fun k => r8_Order.j4 k l lims g b out (t : Int) (p : Int) false) r := by
    refine H.succ 0 fun k _ => ?_
    show r8_Order.j4 (k + 1) l lims g b out (t : Int) (p : Int) false = _
    rw [r8_Order.j4, if_neg z9, if_neg z3, if_pos z3, if_pos (by rw [hG.1]; omega), if_pos z3, longestR (hl t ht), Option.bind_some, Option.bind_some, if_pos (by simp; omega), mx_max, Int.toNat_natCast]
    rfl
  refine key.succ 0 fun k _ => ?_
  show r8_Order.l2 (k + 1) l lims g b out (t : Int) (p : Int) = _
  rw [r8_Order.l2]
  by_cases c : (p : Int) < (l.length : Int)
  · rw [if_pos c, dF z3]
  · rw [if_neg c]
theorem ord_l2 {g : List Bool} {Q : Nat → Bool} (hG : GoneB g Q l.length) (b : Int) (hb0 : 0 ≤ b) (hb1 : b ≤ 135) (out : List Int) (hout : out.length ≤ 100) (R : Option (List Int × Int)) :
    ∀ m i : Nat, l.length - i = m → i ≤ l.length →
      (match firstP (canB l lims Q b) m i with
        | none => R = some ([], 10)
        | some t => t < l.length ∧ EvS (fun k => r8_Order.l1 k l lims (g.set t true) (max b (bitsM (rd_T55 l (t : Int)))) ((t : Int) :: out)) R) →
      EvS (fun k => r8_Order.l2 k l lims g b out (-1) (i : Int)) R
  | 0, i, hm, hi, H => by
    have e : R = some ([], 10) := H
    rw [e]
    refine EvS.now 1 fun k hk => ?_
    obtain ⟨k', rfl⟩ : ∃ k', k = k' + 1 := ⟨k - 1, by omega⟩
    show r8_Order.l2 (k' + 1 + 1) l lims g b out (-1) (i : Int) = _
    rw [r8_Order.l2, if_neg z3, r8_Order.j4, if_neg z9, if_pos z9]
  | m + 1, i, hm, hi, H => by
    have key : EvS (fun k => r8_Order.l2 k l lims g b out (if canB l lims Q b i = true then (i : Int) else -1) ((i + 1 : Nat) : Int)) R := by
      simp only [firstP] at H
      by_cases c : canB l lims Q b i = true
      · rw [if_pos c] at H ⊢
        exact ord_found l lims hl h8 hlim hG b out hout i H.1 (i + 1) R H.2
      · rw [if_neg c] at H ⊢
        exact ord_l2 hG b hb0 hb1 out hout R m (i + 1) z3 z3 H
    refine (ord_at l lims hl h8 hlim hG b hb0 hb1 out i z3 R key).succ 0 fun k _ => ?_
    show r8_Order.l2 (k + 1) l lims g b out (-1) (i : Int) = _
    rw [r8_Order.l2, if_pos z3, dT z9]
theorem ord_l1 : ∀ (m : Nat) (g : List Bool) (Q : Nat → Bool) (b : Int) (out : List Int), GoneB g Q l.length → 0 ≤ b → b ≤ 135 → out.length + m = l.length →
    EvS (fun k => r8_Order.l1 k l lims g b out) (some (orderS l lims m Q b out))
  | 0, g, Q, b, out, hG, hb0, hb1, hout => EvS.now 0 fun k _ => by
      rw [r8_Order.l1, if_neg z3]; rfl
  | m + 1, g, Q, b, out, hG, hb0, hb1, hout => by
    have key : EvS (fun k => r8_Order.l2 k l lims g b out (-1) ((0 : Nat) : Int)) (some (orderS l lims (m + 1) Q b out)) := by
      refine ord_l2 l lims hl h8 hlim hG b hb0 hb1 out z3 _ l.length 0 z3 z3 ?_
      simp only [orderS]
      rcases firstP_spec (canB l lims Q b) l.length 0 with ⟨g1, g2⟩ | ⟨t, g1, g2, g3, g4, g5⟩
      · rw [g1]
      · rw [g1]
        have hC := bitsM_bounds (hl t z3)
        exact ⟨by omega, ord_l1 m _ _ _ _ (hG.set z3) z3 z3 (by simp; omega)⟩
    refine key.succ 0 fun k _ => ?_
    show r8_Order.l1 (k + 1) l lims g b out = _
    rw [r8_Order.l1, if_pos z3]
    rfl
theorem ord_l0 : ∀ m i : Nat, lims.length - i = m → i ≤ lims.length → limTo lims i = true →
    EvS (fun k => r8_Order.l0 k l lims (i : Int)) (some (if limTo lims lims.length = false then ([], 2) else orderS l lims l.length (fun _ => true) 0 []))
  | 0, i, hm, hi, ht => by
    obtain rfl : i = lims.length := by omega
    rw [if_neg (by rw [ht]; simp)]
    refine (ord_l1 l lims hl h8 hlim l.length _ _ 0 [] (GoneB.none l.length) z9 z9 (by simp)).succ 0 fun k _ => ?_
    show r8_Order.l0 (k + 1) l lims (lims.length : Int) = _
    rw [r8_Order.l0, if_neg z3, if_pos z3, Int.toNat_natCast, if_pos z3]
  | m + 1, i, hm, hi, ht => by
    have e : limTo lims (i + 1) = (limTo lims i && (decide (0 ≤ rd lims (i : Int)) && decide (rd lims (i : Int) ≤ 10000000))) := rfl
    have bad : limTo lims (i + 1) = false → limTo lims lims.length = false := fun h => by
      have : ∀ d : Nat, limTo lims (i + 1 + d) = false := fun d => by
        induction d with
        | zero => exact h
        | succ d ih =>
          have e : limTo lims (i + 1 + d + 1) = (limTo lims (i + 1 + d) && (decide (0 ≤ rd lims ((i + 1 + d : Nat) : Int)) && decide (rd lims ((i + 1 + d : Nat) : Int) ≤ 10000000))) := rfl
          show limTo lims (i + 1 + d + 1) = false
          rw [e, ih]; rfl
      have h2 := this (lims.length - (i + 1))
      rwa [show i + 1 + (lims.length - (i + 1)) = lims.length by omega] at h2
    by_cases c1 : rd lims (i : Int) < 0
    · rw [if_pos (bad (by rw [e, dF (show ¬ 0 ≤ rd lims (i : Int) by omega), Bool.false_and, Bool.and_false]))]
      exact EvS.now 0 fun k _ => by rw [r8_Order.l0, if_pos z3, if_pos z3, if_pos c1]
    by_cases c2 : rd lims (i : Int) > 10000000
    · rw [if_pos (bad (by rw [e, dF (show ¬ rd lims (i : Int) ≤ 10000000 by omega), Bool.and_false, Bool.and_false]))]
      exact EvS.now 0 fun k _ => by rw [r8_Order.l0, if_pos z3, if_pos z3, if_neg c1, if_pos c2]
    have ih := ord_l0 m (i + 1) z3 z3 (by rw [e, ht, dT (show 0 ≤ rd lims (i : Int) by omega), dT (show rd lims (i : Int) ≤ 10000000 by omega)]; rfl)
    refine ih.succ 0 fun k _ => ?_
    show r8_Order.l0 (k + 1) l lims (i : Int) = _
    rw [r8_Order.l0, if_pos z3, if_pos z3, if_neg c1, if_neg c2, nNx i z3]
end
theorem rOrder_eq (l : List S55) (lims : List Int) : EvS (fun k => r8_Order.f k l lims) (some (orderSpec l lims)) := by
  (obtain ⟨K, hM⟩ := Messages_eq l); (cases h : sentB l)
  · (refine ⟨max K 1, fun k hk => ?_⟩); (have hM : r8_Messages.f k l = _ := hM k z3); (obtain ⟨k', rfl⟩ : ∃ k', k = k' + 1 := ⟨k - 1, by omega⟩); (show r8_Order.f (k' + 1) l lims = _); (unfold r8_Order.f orderSpec); rw [hM, h, Option.bind_some, if_neg z9, r8_Order.j0, if_pos rfl, if_pos (.inl rfl)]
  (obtain ⟨h8, hl⟩ := sentB_oks l h); by_cases hlim : lims.length = l.length; rotate_left
  · (refine ⟨max K 1, fun k hk => ?_⟩); (have hM : r8_Messages.f k l = _ := hM k z3); (obtain ⟨k', rfl⟩ : ∃ k', k = k' + 1 := ⟨k - 1, by omega⟩); (show r8_Order.f (k' + 1) l lims = _); (unfold r8_Order.f orderSpec); rw [hM, h, Option.bind_some, if_pos rfl, r8_Order.j0, if_pos (by rw [bne_iff_ne]; omega), if_pos (.inr (.inl hlim))]
  (have h0 := ord_l0 l lims hl h8 hlim lims.length 0 z3 z3 rfl)
  have e : (if limTo lims lims.length = false then (([] : List Int), (2 : Int)) else orderS l lims l.length (fun _ => true) 0 []) = orderSpec l lims := by
    unfold orderSpec
    by_cases c : limTo lims lims.length = false
    · rw [if_pos c, if_pos (.inr (.inr c))]
    · rw [if_neg c, if_neg (by rw [h]; simp only [Bool.true_eq_false, false_or, not_or]; exact ⟨fun x => x hlim, c⟩)]
  rw [e] at h0; obtain ⟨K2, h2⟩ := h0; (refine ⟨max K (K2 + 1), fun k hk => ?_⟩); (have hM : r8_Messages.f k l = _ := hM k z3); (obtain ⟨k', rfl⟩ : ∃ k', k = k' + 1 := ⟨k - 1, by omega⟩); (have h2 : r8_Order.l0 k' l lims _ = _ := h2 k' z3); (show r8_Order.f (k' + 1) l lims = _); (unfold r8_Order.f); rw [hM, h, Option.bind_some, if_pos rfl, r8_Order.j0, if_neg (by rw [hlim]; simp)]; (exact h2)
end Go.Proofs.YtbanemecfobonaaDoor.B
namespace Go.Proofs.YtbanemecfobonaaDoor.B
open Go.RowKit Go.Proofs.YtbanemecfobonaaDoorW.PrintWords Go.Proofs.YtbanemecfobonaaDoorW.PrintLast Go.Proofs.YtbanemecfobonaaDoorW.PrintMore
attribute [local go_sem] max2_int min2_int max_two min_two max_three min_three max_four min_four
set_option linter.unusedVariables false
set_option linter.unusedSimpArgs false
end Go.Proofs.YtbanemecfobonaaDoor.B
namespace Go.Proofs.YtbanemecfobonaaDoor.B
open Go.RowKit Go.Proofs.YtbanemecfobonaaDoorW.PrintWords Go.Proofs.YtbanemecfobonaaDoorW.PrintLast Go.Proofs.YtbanemecfobonaaDoorW.PrintMore
set_option linter.unusedVariables false
set_option linter.unusedSimpArgs false
theorem w64 (n : Int) (h1 : -9223372036854775808 ≤ n) (h2 : n ≤ 9223372036854775807) : wrap64 n = n := by
  unfold wrap64; omega
theorem drop_rd (x : List Int) (i : Nat) (h : i < x.length) : x.drop i = rd x (i : Int) :: x.drop (i + 1) := by
  rw [List.drop_eq_getElem_cons h]
  congr 1
  show _ = x.getD ((i : Int)).toNat 0
  rw [List.getD_eq_getElem?_getD, Int.toNat_natCast, List.getElem?_eq_getElem h]
  rfl
theorem same_l0 (x y : List Int) (hxy : x.length = y.length) (hx : x.length ≤ 1000000000) : ∀ (k i : Nat), i ≤ x.length → x.length - i < k → w8_same.l0 k x y (i : Int) = some (decide (x.drop i = y.drop i))
  | 0, _, _, h => by omega
  | k + 1, i, hi, hk => by
    unfold w8_same.l0
    by_cases h : i < x.length
    · have e3 : wrap64 ((i : Int) + 1) = ((i + 1 : Nat) : Int) := by rw [w64 _ z3 z3]; omega
      rw [if_pos z3, if_pos z3, if_pos z3, e3, same_l0 x y hxy hx k (i + 1) z3 z3, drop_rd x i h, drop_rd y i z3]
      by_cases h0 : rd x (i : Int) = rd y (i : Int)
      · rw [if_pos h0, h0]; simp
      · rw [if_neg h0]; simp [h0]
    · rw [if_neg z3, List.drop_eq_nil_of_le z3, List.drop_eq_nil_of_le z3]
      simp
theorem same_eq (x y : List Int) (hx : x.length ≤ 1000000000) (k : Nat) (hk : x.length < k) : w8_same.f k x y = some (decide (x = y)) := by
  unfold w8_same.f
  by_cases h : x.length = y.length
  · rw [if_pos z3]
    have := same_l0 x y h hx k 0 z3 z3
    simpa using this
  · rw [if_neg z3]
    have : x ≠ y := fun e => h (by rw [e])
    simp [this]
end Go.Proofs.YtbanemecfobonaaDoor.B
namespace Go.Proofs.YtbanemecfobonaaDoor.Pure
open Go.RowKit Go.Proofs.YtbanemecfobonaaDoor.B Go.Proofs.YtbanemecfobonaaDoorW.PrintWords Go.Proofs.YtbanemecfobonaaDoorW.PrintLast Go.Proofs.YtbanemecfobonaaDoorW.PrintMore
set_option linter.unusedVariables false
set_option linter.unusedSimpArgs false
theorem orderS_len (l : List S55) (lims : List Int) : ∀ (m : Nat) (Q : Nat → Bool) (b : Int) (out : List Int), (orderS l lims m Q b out).1.length ≤ out.length + m
  | 0, Q, b, out => by simp [orderS]
  | m + 1, Q, b, out => by
    simp only [orderS]
    split
    · simp
    · rename_i i _
      have := orderS_len l lims m (fun t => Q t && t != i) (max b (bitsM (rd_T55 l (i : Int)))) ((i : Int) :: out)
      simp at this ⊢
      omega
theorem orderSpec_len (l : List S55) (lims : List Int) : (orderSpec l lims).1.length ≤ 8 := by
  unfold orderSpec
  split
  · simp
  · rename_i h
    have hs : sentB l = true := by
      cases e : sentB l
      · exact absurd (.inl e) h
      · rfl
    have h8 := (sentB_oks l hs).1
    have := orderS_len l lims l.length (fun _ => true) 0 []
    simp at this
    omega
theorem BusOrders (l : List S55) (lims : List Int) : ∃ k, w8_BusOrders.f k l lims = some true := by
  have dead : ∀ k, w8_BusOrders.j0 (k + 1) l lims true = some true := fun k => by rw [w8_BusOrders.j0, if_pos rfl]; rfl
  by_cases c1 : (l.length : Int) > 20
  · exact ⟨1, by unfold w8_BusOrders.f; rw [if_pos c1, dead]⟩
  by_cases c2 : (lims.length : Int) > 20
  · exact ⟨1, by unfold w8_BusOrders.f; rw [if_neg c1, decide_eq_true c2, dead]⟩
  obtain ⟨K, hK⟩ := rOrder_eq l lims
  have hlen := orderSpec_len l lims
  refine ⟨max K 9 + 1, ?_⟩
  have hK : r8_Order.f (max K 9) l lims = _ := hK _ (by omega)
  have hO : bus_Order.f l lims = some (orderSpec l lims) := rfl
  unfold w8_BusOrders.f
  rw [if_neg c1, decide_eq_false c2, w8_BusOrders.j0, if_neg (by decide), hO, Option.bind_some, hK, Option.bind_some, same_eq _ _ (by omega) _ (by omega), Option.bind_some, if_pos (decide_eq_true rfl), if_pos rfl]
  rfl
end Go.Proofs.YtbanemecfobonaaDoor.Pure
