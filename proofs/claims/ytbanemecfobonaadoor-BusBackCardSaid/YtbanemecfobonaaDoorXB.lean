/- BusBack: the law's walk, by hand. -/
import Derived.Test.YtbanemecfobonaaDoorXA
import Derived.Test.YtbanemecfobonaaDoorBRB
import Derived.Test.YtbanemecfobonaaDoorU9
namespace Go.Proofs.YtbanemecfobonaaDoor.B
open Go.RowKit Go.Proofs.YtbanemecfobonaaDoorW.PrintWords Go.Proofs.YtbanemecfobonaaDoorW.PrintLast Go.Proofs.YtbanemecfobonaaDoorW.PrintMore
set_option linter.unusedVariables false
set_option linter.unusedSimpArgs false

set_option maxHeartbeats 1000000 in
set_option maxRecDepth 100000 in
theorem back_big (no : Int) (A : Option Addr) (c : Nat) (l : List Int) (A2 : Option Addr) (c2 : Nat) (mb : List Bool) (w : World) (hbig : 40 < l.length ∨ 30 < mb.length) (ht : TailLaid w) :
    Calls Tryd.prog 7 #[.agg #[.int .i64 no, .slice A l.length c], .slice A2 mb.length c2] w fun e w' => e = .returned (.bool true) ∧ Below w.heap.size w w' := by
  have HT := Aside0.mk ht
  have HB := Aside0.mk (Below.refl w.heap.size w)
  have hu24 := Tryd.underlying24
  clear ht
  by_cases h1 : 40 < l.length
  · have t1 : decide (40 < l.length) = true := decide_eq_true h1
    have t2 : decide (40 < (l.length : Int)) = true := decide_eq_true (by omega)
    clear h1 hbig
    go_enter Tryd.func7, Tryd.ntmps7
    go_wp2_with (first | (go_at_call 16; refine (neonwrightlaw08_alive.calls true _ rfl (TailLaid.below HT.out (by repeat (first | exact HB.out | apply below_alloc | apply pw_below_drewN | apply below_drew1)))).mono ?_; rintro e w9 ⟨rfl, b9⟩; replace b9 := Aside0.mk (below_step (by repeat (first | exact HB.out | apply below_alloc | apply pw_below_drewN | apply below_drew1)) b9)))
    go_ret
    exact ⟨rfl, b9.out⟩
  · have h2 : 30 < mb.length := hbig.resolve_left h1
    have t1 : decide (40 < l.length) = false := decide_eq_false h1
    have t2 : decide (40 < (l.length : Int)) = false := decide_eq_false (by omega)
    have t3 : decide (30 < mb.length) = true := decide_eq_true h2
    have t4 : decide (30 < (mb.length : Int)) = true := decide_eq_true (by omega)
    clear h1 hbig h2
    go_enter Tryd.func7, Tryd.ntmps7
    go_wp2_with (first | (go_at_call 16; refine (neonwrightlaw08_alive.calls true _ rfl (TailLaid.below HT.out (by repeat (first | exact HB.out | apply below_alloc | apply pw_below_drewN | apply below_drew1)))).mono ?_; rintro e w9 ⟨rfl, b9⟩; replace b9 := Aside0.mk (below_step (by repeat (first | exact HB.out | apply below_alloc | apply pw_below_drewN | apply below_drew1)) b9)))
    go_ret
    exact ⟨rfl, b9.out⟩

set_option maxHeartbeats 1000000 in
set_option maxRecDepth 100000 in
theorem back_bad (no : Int) (A : Option Addr) (c : Nat) (l : List Int) (A2 : Option Addr) (c2 : Nat) (mb : List Bool) (w : World) (hr : Kd.C (Kd.int .i64) w A l.length l) (hc : l.length ≤ c) (h40 : l.length ≤ 40) (h30 : mb.length ≤ 30) (hv : vB ⟨no, l⟩ = false) (ht : TailLaid w) :
    Calls Tryd.prog 7 #[.agg #[.int .i64 no, .slice A l.length c], .slice A2 mb.length c2] w fun e w' => e = .returned (.bool true) ∧ Below w.heap.size w w' := by
  have HT := Aside0.mk ht
  have HB := Aside0.mk (Below.refl w.heap.size w)
  have HR := Aside0.mk hr
  have HC := Aside0.mk hc
  have hu24 := Tryd.underlying24
  have eb : bus_Bits.f no l = some ([], 2) := by rw [bus_Bits_eq, bitsAns, if_neg (by rw [hv]; simp)]
  have ef : neonwrightref08_Frame.f 100 no l = some false := by rw [Frame_eq no l (by omega) 100 (by omega), hv]
  have EB := Aside0.mk eb
  have EF := Aside0.mk ef
  have t1 : decide (40 < l.length) = false := decide_eq_false (by omega)
  have t2 : decide (40 < (l.length : Int)) = false := decide_eq_false (by omega)
  have t3 : decide (30 < mb.length) = false := decide_eq_false (by omega)
  have t4 : decide (30 < (mb.length : Int)) = false := decide_eq_false (by omega)
  clear ht hr hc eb ef hv h40 h30
  go_enter Tryd.func7, Tryd.ntmps7
  go_wp2_with (first | (go_at_call 18; refine (bus_Bits.calls no A c l [] 2 _ (Kd.C_below HR.out (by repeat (first | exact HB.out | apply below_alloc | apply pw_below_drewN | apply below_drew1))) HC.out EB.out (TailLaid.below HT.out (by repeat (first | exact HB.out | apply below_alloc | apply pw_below_drewN | apply below_drew1)))).mono ?_; rintro e w1 ⟨v, rfl, hv1, b1⟩; obtain ⟨Ab, cb, rfl, hcb, hrb⟩ := Kd.R_reads hv1; have BK := Aside0.mk (blk_below (blk_new w (.cells #[.int .i64 no, .slice A l.length c] 24)) b1); replace HB := Aside0.mk (below_step (by repeat (first | exact HB.out | apply below_alloc | apply pw_below_drewN | apply below_drew1)) b1); clear hv1 b1 hrb hcb; have q0 := (blk_cell BK.out 0).trans rfl; have q1 := (blk_cell BK.out 1).trans rfl) | (go_at_call 24; refine (neonwrightref08_Frame.calls 100 no A c l false _ (Kd.C_below HR.out (by repeat (first | exact HB.out | apply below_alloc | apply pw_below_drewN | apply below_drew1))) HC.out EF.out).mono ?_; rintro e w2 ⟨rfl, b2⟩; replace HB := Aside0.mk (below_step (by repeat (first | exact HB.out | apply below_alloc | apply pw_below_drewN | apply below_drew1)) b2); clear b2 q0 q1 BK) | (go_at_call 16; refine (neonwrightlaw08_alive.calls true _ rfl (TailLaid.below HT.out (by repeat (first | exact HB.out | apply below_alloc | apply pw_below_drewN | apply below_drew1)))).mono ?_; rintro e w9 ⟨rfl, b9⟩; replace b9 := Aside0.mk (below_step (by repeat (first | exact HB.out | apply below_alloc | apply pw_below_drewN | apply below_drew1)) b9)))
  go_ret
  exact ⟨rfl, b9.out⟩


/-- 1 for true, 0 for false. -/
def b2i (x : Bool) : Int := if x = true then 1 else 0
theorem longest_eq (n : Nat) (hn : n ≤ 8) : bus_Longest.f (n : Int) = some (((47 + 8 * n + (33 + 8 * n) / 4 : Nat) : Int), 0) := by
  have e : bus_longest.f (n : Int) = some ((47 + 8 * n + (33 + 8 * n) / 4 : Nat) : Int) := by
    unfold bus_longest.f
    obtain h | h | h | h | h | h | h | h | h : n = 0 ∨ n = 1 ∨ n = 2 ∨ n = 3 ∨ n = 4 ∨ n = 5 ∨ n = 6 ∨ n = 7 ∨ n = 8 := by omega
    all_goals (subst h; decide +kernel)
  unfold bus_Longest.f
  rw [if_neg (by omega), if_neg (by omega), e]
  rfl

set_option maxHeartbeats 1000000 in
set_option maxRecDepth 100000 in
theorem back_good (no : Int) (A : Option Addr) (c : Nat) (l : List Int) (A2 : Option Addr) (c2 : Nat) (mb : List Bool) (w : World) (hr : Kd.C (Kd.int .i64) w A l.length l) (hc : l.length ≤ c) (hr2 : Kd.C Kd.bool w A2 mb.length mb) (bl : List Int) (nl : Int)
    (h8 : l.length ≤ 8) (h30 : mb.length ≤ 30) (hbl : bl.length ≤ 200) (h13 : 13 ≤ bl.length) (hnl : (bl.length : Int) ≤ nl)
    (eb : bus_Bits.f no l = some (bl, 0)) (el : bus_Longest.f (l.length : Int) = some (nl, 0)) (er : bus_Read.f (bl ++ mb.map b2i) = some (no, l, (bl.length : Int), 0))
    (ec : bus_Read.f (bl.take (bl.length - 1)) = some (0, [], (bl.length : Int) - 1, 5)) (erun : ∀ i, i ≤ bl.length - 13 → runAt bl i ≤ 5) (ht : TailLaid w) :
    Calls Tryd.prog 7 #[.agg #[.int .i64 no, .slice A l.length c], .slice A2 mb.length c2] w fun e w' => e = .returned (.bool true) ∧ Below w.heap.size w w' := by
  have HT := Aside0.mk ht
  have HB := Aside0.mk (Below.refl w.heap.size w)
  have HR := Aside0.mk hr
  have HR2 := Aside0.mk hr2
  have HC := Aside0.mk hc
  have hu24 := Tryd.underlying24
  have EB := Aside0.mk eb
  have EL := Aside0.mk el
  have ER := Aside0.mk er
  have EC := Aside0.mk ec
  have ERUN := Aside0.mk erun
  have ES : Aside0 (neonwrightlaw08_same.f 100 l l = some true) := ⟨by rw [same_eq l l (by omega) 100 (by omega), decide_eq_true rfl]⟩
  have t1 : decide (40 < l.length) = false := decide_eq_false (by omega)
  have t2 : decide (40 < (l.length : Int)) = false := decide_eq_false (by omega)
  have t3 : decide (30 < mb.length) = false := decide_eq_false (by omega)
  have t4 : decide (30 < (mb.length : Int)) = false := decide_eq_false (by omega)
  have t5 : decide (nl < (bl.length : Int)) = false := decide_eq_false (by omega)
  have t6 : decide (bl.length < 13) = false := decide_eq_false (by omega)
  have t7 : decide ((bl.length : Int) < 13) = false := decide_eq_false (by omega)
  have HL8 := Aside0.mk h8
  have HL30 := Aside0.mk h30
  have h200 : (bl.length : Int) ≤ 200 := by omega
  have h13' : (13 : Int) ≤ (bl.length : Int) := by omega
  have h30' : (mb.length : Int) ≤ 30 := by omega
  clear ht hr hr2 hc eb el er ec erun h8 h30 hnl hbl h13
  go_enter Tryd.func7, Tryd.ntmps7
  go_wp2_with (first | (go_at_call 18; refine (bus_Bits.calls no A c l bl 0 _ (Kd.C_below HR.out (by repeat (first | exact HB.out | apply below_alloc | apply pw_below_drewN | apply below_drew1))) HC.out EB.out (TailLaid.below HT.out (by repeat (first | exact HB.out | apply below_alloc | apply pw_below_drewN | apply below_drew1)))).mono ?_; rintro e w1 ⟨v, rfl, hv1, b1⟩; obtain ⟨Ab, cb, rfl, hcb, hrb⟩ := Kd.R_reads hv1; have BK := Aside0.mk (blk_below (blk_new w (.cells #[.int .i64 no, .slice A l.length c] 24)) b1); replace HB := Aside0.mk (below_step (by repeat (first | exact HB.out | apply below_alloc | apply pw_below_drewN | apply below_drew1)) b1); have HRB := Aside0.mk hrb; have HCB := Aside0.mk hcb; have HBW1 := Aside0.mk HB.out; clear hv1 b1 hrb hcb; have q0 := (blk_cell BK.out 0).trans rfl; have q1 := (blk_cell BK.out 1).trans rfl) | (go_at_call 25; refine (bus_Longest.calls (l.length : Int) nl 0 _ EL.out).mono ?_; rintro e w2 ⟨rfl, ⟨n2, rfl⟩⟩))
  go_loopg [9, 10] (bl.length - 13) (fun g v9 v10 w' => ∃ r i : Int, v9 = .int .i64 r ∧ v10 = .int .i64 i ∧ 0 ≤ i ∧ i ≤ bl.length - 13 ∧ 0 ≤ r ∧ r ≤ 5 ∧ Aside0 (r = (runAt bl i.toNat : Int)) ∧ Aside0 (g = bl.length - 13 - i.toNat) ∧ Drawn0 w1 w')
  case atStart => exact ⟨0, 0, rfl, rfl, by omega, by omega, by omega, by omega, ⟨rfl⟩, ⟨by simp⟩, ⟨n2, rfl⟩⟩
  case round =>
    obtain ⟨r, i, rfl, rfl, hi0, hi, hr0, hr5, HRUN, HG, ⟨m1, rfl⟩⟩ := hrel
    by_cases hlt : i < (bl.length : Int) - 13
    · obtain ⟨ad, e0, hx⟩ := Kd.at_int HRB.out i hi0 (by omega)
      cases e0
      have hib : i < (bl.length : Int) := by omega
      have hstep := ERUN.out (i.toNat + 1) (by omega)
      by_cases hip : 0 < i
      · obtain ⟨ad2, e2, hx2⟩ := Kd.at_int HRB.out (i - 1) (by omega) (by omega)
        cases e2
        have hi1 : 0 ≤ i - 1 := by omega
        have hi2 : i - 1 < (bl.length : Int) := by omega
        have t8 : decide (0 < i) = true := decide_eq_true hip
        have hx3 : w1.cell? (ad.add (i.toNat - 1)) = some (.int .i64 (rd bl (i - 1))) := by
          have e : (i - 1).toNat = i.toNat - 1 := by omega
          rw [← e]; exact hx2
        have ec1 : ((i.toNat : Nat) : Int) = i := by omega
        have ec2 : ((i.toNat - 1 : Nat) : Int) = i - 1 := by omega
        by_cases he : rd bl i = rd bl (i - 1)
        · have er : runAt bl (i.toNat + 1) = runAt bl i.toNat + 1 := by
            rw [runAt, if_pos ⟨by omega, by rw [ec1, ec2]; exact he⟩]
          have hr6 : r + 1 ≤ 5 := by have := HRUN.out; omega
          have t9 : (rd bl i == rd bl (i - 1)) = true := by rw [he]; exact beq_self_eq_true _
          have t10 : decide (5 < r + 1) = false := decide_eq_false (by omega)
          have ER2 := Aside0.mk er
          clear er hstep he
          generalize rd bl i = x at hx t9
          generalize rd bl (i - 1) = y at hx2 hx3 t9
          go_wp2
          go_quiet (fail)
          go_wp2
          go_roundg (gk - 1)
          case measure => have := HG.out; omega
          case rel => exact ⟨r + 1, i + 1, rfl, rfl, by omega, by omega, by omega, by omega, ⟨by
            have e : (i + 1).toNat = i.toNat + 1 := by omega
            rw [e, ER2.out]; have := HRUN.out; omega⟩, ⟨by have := HG.out; omega⟩, by repeat (first | exact Drawn0.refl _ | apply Drawn0.step)⟩
        · have er : runAt bl (i.toNat + 1) = 1 := by
            rw [runAt, if_neg (fun e => he (by have := e.2; rwa [ec1, ec2] at this))]
          have t9 : (rd bl i == rd bl (i - 1)) = false := by simpa using he
          have ER2 := Aside0.mk er
          clear er hstep he
          generalize rd bl i = x at hx t9
          generalize rd bl (i - 1) = y at hx2 hx3 t9
          go_wp2
          go_quiet (fail)
          go_wp2
          go_roundg (gk - 1)
          case measure => have := HG.out; omega
          case rel => exact ⟨1, i + 1, rfl, rfl, by omega, by omega, by omega, by omega, ⟨by
            have e : (i + 1).toNat = i.toNat + 1 := by omega
            rw [e, ER2.out]; rfl⟩, ⟨by have := HG.out; omega⟩, by repeat (first | exact Drawn0.refl _ | apply Drawn0.step)⟩
      · obtain rfl : i = 0 := by omega
        have t8 : decide ((0 : Int) < 0) = false := by decide
        go_wp2
        go_quiet (fail)
        go_wp2
        go_roundg (gk - 1)
        case measure => have := HG.out; omega
        case rel => exact ⟨1, 0 + 1, rfl, rfl, by omega, by omega, by omega, by omega, ⟨rfl⟩, ⟨by have := HG.out; omega⟩, by repeat (first | exact Drawn0.refl _ | apply Drawn0.step)⟩
    · have HB1 : Aside0 (Below w1.heap.size w1 (w1.drewN m1)) := ⟨pw_below_drewN (Below.refl _ _) _⟩
      clear q0 q1 t5 t6 t7
      go_wp2_with (first | ((with_reducible refine gate_dst (N := 96) rfl ?_); refine Kd.R_lit (Kd.int .i64) _ 3 ?hg (N := 96) ?hd (xs := ([] : List Int)) (inner := []) (ok := fun _ => True) (okp := fun _ => True) ?hr ?hp (fun _ hk => hk) trivial (Below.refl _ _) (Nat.le_refl _) (by simp) ?_; (case hd => rfl); (case hg => rfl); (case hr => first | (go_simp; done) | (go_simp; rfl)); (case hp => exact (Reps.none _ _)); intro v8 w10 ho hb hg_ hnew_; clear hg_ hnew_; have HO := Aside0.mk (Kd.R_lower ho (below_size (by repeat (first | exact HB1.out | exact Below.refl _ _ | apply below_alloc | apply pw_below_drewN | apply below_drew1)))); replace HB1 := Aside0.mk (below_step (by repeat (first | exact HB1.out | exact Below.refl _ _ | apply below_alloc | apply pw_below_drewN | apply below_drew1)) hb); clear hb ho) | ((with_reducible refine gate_builtin (b := .append) (xs := #[.tmp 96, .tmp 97]) rfl ?_); at_builtin; refine Kd.R_append_rows (Kd.int .i64) (w0 := w1) w1.heap.size rfl (.tmp 96) (.tmp 97) 22 3 (.int .i64 0) 8 rfl Tryd.underlying22 info3 rfl (by decide) (by omega) v8 [] bl _ _ _ (fun _ => True) (fun _ => False) rfl rfl ?aO ?aR (fun _ _ h => h) (fun _ h => h.elim) ?aF ?aB ?aS ?aL ?_; (case aR => exact Kd.C_below HRB.out (by repeat (first | exact HB1.out | exact Below.refl _ _ | apply below_alloc | apply pw_below_drewN | apply below_drew1))); (case aB => repeat (first | exact HB1.out | exact Below.refl _ _ | apply below_alloc | apply pw_below_drewN | apply below_drew1)); (case aF => exact (fun _ _ => trivial)); (case aO => exact (by (with_reducible repeat (first | apply Kd.R_alloc | apply Kd.R_drewN | apply Kd.R_drew)); exact HO.out)); (case aS => exact (below_size (by repeat (first | exact HB1.out | exact Below.refl _ _ | apply below_alloc | apply pw_below_drewN | apply below_drew1)))); (case aL => simp only [List.length_nil]; omega); intro v9 w12 ho hb hg hat; replace HB1 := Aside0.mk hb; replace HO := Aside0.mk ho; clear ho hb hg hat))
      go_loopg [11, 12] mb.length (fun g v11 v12 w' => ∃ (va : Value) (i : Int), v11 = va ∧ v12 = .int .i64 i ∧ 0 ≤ i ∧ i ≤ mb.length ∧ Aside0 (g = mb.length - i.toNat) ∧ Aside0 (Kd.R (Kd.int .i64) 3 w' w1.heap.size (fun _ => True) va (bl ++ (mb.map b2i).take i.toNat)) ∧ Aside0 (Below w1.heap.size w1 w'))
      case atStart => exact ⟨v9, 0, rfl, rfl, by omega, by omega, ⟨by simp⟩, ⟨by have h := HO.out; simpa using h⟩, ⟨HB1.out⟩⟩
      case round =>
        clear HO HB1
        obtain ⟨va, i, hva, rfl, hi0, hi, HG, HO, HB1⟩ := hrel
        replace hva := hva.symm
        subst hva
        have HLA : Aside0 ((bl ++ (mb.map b2i).take i.toNat).length ≤ 400) := ⟨by rw [List.length_append, List.length_take, List.length_map]; have := HL30.out; omega⟩
        by_cases hlt : i < mb.length
        · obtain ⟨ad, e0, hx⟩ := Kd.at_bool HR2.out i hi0 hlt
          cases e0
          have hx' : wr.cell? (ad.add i.toNat) = some (.bool (rdOf false mb i)) := (HB1.out.cell (Nat.lt_of_lt_of_le (World.block_lt_of_cell? w _ hx) HBW1.out.size)).trans ((HBW1.out.cell (World.block_lt_of_cell? w _ hx)).trans hx)
          have htk : bl ++ (mb.map b2i).take (i + 1).toNat = (bl ++ (mb.map b2i).take i.toNat) ++ [b2i (rdOf false mb i)] := by
            have e : (i + 1).toNat = i.toNat + 1 := by omega
            have hl : i.toNat < (mb.map b2i).length := by rw [List.length_map]; omega
            have e3 : (mb.map b2i)[i.toNat] = b2i (rdOf false mb i) := by
              rw [List.getElem_map]
              congr 1
              show _ = mb.getD i.toNat false
              rw [List.getD_eq_getElem?_getD, List.getElem?_eq_getElem (by omega)]; rfl
            rw [e, List.take_succ_eq_append_getElem hl, e3, List.append_assoc]
          have HTK := Aside0.mk htk
          clear htk hx
          cases hbv : rdOf false mb i
          · rw [hbv] at hx'
            have ev : b2i (rdOf false mb i) = 0 := by rw [hbv]; rfl
            rw [ev] at HTK
            clear hbv ev
            go_wp2_with (first | ((with_reducible refine gate_builtin (b := .append) (xs := #[.tmp 109, .tmp 111]) rfl ?_); at_builtin; refine Kd.R_append (Kd.int .i64) (w0 := w1) w1.heap.size rfl (.tmp 109) (.tmp 111) 22 3 (.int .i64 0) 8 rfl Tryd.underlying22 info3 rfl (by decide) (by omega) va (bl ++ (mb.map b2i).take i.toNat) 0 [.int .i64 0] (fun _ => True) (fun _ => False) rfl rfl ?aP (fun _ hk => hk.elim) ?aF ?aO ?aB ?aS ?aL ?_; (case aP => exact rfl); (case aB => repeat (first | exact HB1.out | exact Below.refl _ _ | apply below_alloc | apply pw_below_drewN | apply below_drew1)); (case aF => exact (fun _ _ => trivial)); (case aO => exact (by (with_reducible repeat (first | apply Kd.R_alloc | apply Kd.R_drewN | apply Kd.R_drew)); exact HO.out)); (case aS => exact (below_size (by repeat (first | exact HB1.out | exact Below.refl _ _ | apply below_alloc | apply pw_below_drewN | apply below_drew1)))); (case aL => have h_ := HLA.out; omega); intro vb w13 ho hb hg hat; replace HB1 := Aside0.mk hb; replace HO := Aside0.mk ho; clear ho hb hg hat))
            go_roundg (gk - 1)
            case measure => have := HG.out; omega
            case rel => exact ⟨vb, i + 1, rfl, rfl, by omega, by omega, ⟨by have := HG.out; omega⟩, ⟨by rw [HTK.out]; exact HO.out⟩, ⟨HB1.out⟩⟩
          · rw [hbv] at hx'
            have ev : b2i (rdOf false mb i) = 1 := by rw [hbv]; rfl
            rw [ev] at HTK
            clear hbv ev
            go_wp2_with (first | ((with_reducible refine gate_builtin (b := .append) (xs := #[.tmp 109, .tmp 111]) rfl ?_); at_builtin; refine Kd.R_append (Kd.int .i64) (w0 := w1) w1.heap.size rfl (.tmp 109) (.tmp 111) 22 3 (.int .i64 0) 8 rfl Tryd.underlying22 info3 rfl (by decide) (by omega) va (bl ++ (mb.map b2i).take i.toNat) 1 [.int .i64 1] (fun _ => True) (fun _ => False) rfl rfl ?aP (fun _ hk => hk.elim) ?aF ?aO ?aB ?aS ?aL ?_; (case aP => exact rfl); (case aB => repeat (first | exact HB1.out | exact Below.refl _ _ | apply below_alloc | apply pw_below_drewN | apply below_drew1)); (case aF => exact (fun _ _ => trivial)); (case aO => exact (by (with_reducible repeat (first | apply Kd.R_alloc | apply Kd.R_drewN | apply Kd.R_drew)); exact HO.out)); (case aS => exact (below_size (by repeat (first | exact HB1.out | exact Below.refl _ _ | apply below_alloc | apply pw_below_drewN | apply below_drew1)))); (case aL => have h_ := HLA.out; omega); intro vb w13 ho hb hg hat; replace HB1 := Aside0.mk hb; replace HO := Aside0.mk ho; clear ho hb hg hat))
            go_roundg (gk - 1)
            case measure => have := HG.out; omega
            case rel => exact ⟨vb, i + 1, rfl, rfl, by omega, by omega, ⟨by have := HG.out; omega⟩, ⟨by rw [HTK.out]; exact HO.out⟩, ⟨HB1.out⟩⟩
        · have hall : bl ++ (mb.map b2i).take i.toNat = bl ++ mb.map b2i := by
            congr 1
            exact List.take_of_length_le (by rw [List.length_map]; omega)
          rw [hall] at HO HLA
          generalize bl ++ mb.map b2i = al at HO HLA ER
          obtain ⟨Ao, co, rfl, hco, hro⟩ := Kd.R_reads HO.out
          have HRO := Aside0.mk hro
          have HCO := Aside0.mk hco
          clear hro hco HO
          have HB : Aside0 (Below w.heap.size w wr) := ⟨below_step HBW1.out HB1.out⟩
          have elen : (bl.take (bl.length - 1)).length = bl.length - 1 := by rw [List.length_take]; omega
          have hcapb : (bl.take (bl.length - 1)).length ≤ cb := by have := HCB.out; omega
          obtain ⟨i035, hi035, _, hsz35, _⟩ := info_parts info3
          have hcut := cut_to (P := Tryd.prog) 22 3 .i64 Tryd.underlying22 hi035 Ab bl.length cb ((bl.length : Int) - 1) (by omega) (by omega) HCB.out
          have ejn : ((bl.length : Int) - 1).toNat = (bl.take (bl.length - 1)).length := by omega
          rw [ejn] at hcut
          have HRC : Aside0 (Kd.C (Kd.int .i64) w1 Ab (bl.take (bl.length - 1)).length (bl.take (bl.length - 1))) := ⟨Kd.C_take (m := bl.length - 1) HRB.out (by omega)⟩
          have HCAPB := Aside0.mk hcapb
          have tk1 : ((bl.length : Int) == (bl.length : Int)) = true := beq_self_eq_true _
          have tk2 : (((bl.length : Int) - 1) == ((bl.length : Int) - 1)) = true := beq_self_eq_true _
          have tk3 : (no == no) = true := beq_self_eq_true _
          clear elen hcapb ejn hi035 hsz35 HLA HG
          generalize bl.take (bl.length - 1) = ct at hcut HRC HCAPB EC
          go_wp2_with (first | (go_at_call 20; (with_reducible refine (bus_Read.calls Ao co al no l (bl.length : Int) 0 _ ?s1 HCO.out ER.out ?s2).mono ?_); (case s1 => first | exact HRO.out | exact Kd.C_drewN HRO.out _); (case s2 => exact TailLaid.below HT.out (by repeat (first | exact HB.out | apply below_alloc | apply pw_below_drewN | apply below_drew1))); rintro e w4 ⟨v1, rfl, hv1, b4⟩; obtain ⟨Ay, cy, rfl, hcy, hry⟩ := Kd.R_reads hv1; have HRY := Aside0.mk hry; have HCY := Aside0.mk hcy; replace HB1 := Aside0.mk (below_step (by repeat (first | exact HB1.out | exact Below.refl _ _ | apply below_alloc | apply pw_below_drewN | apply below_drew1)) b4); replace HB := Aside0.mk (below_step (by repeat (first | exact HB.out | apply below_alloc | apply pw_below_drewN | apply below_drew1)) b4); clear hv1 b4 hry hcy) | (go_at_call 20; (with_reducible refine (bus_Read.calls Ab cb ct 0 [] ((bl.length : Int) - 1) 5 _ ?s1 HCAPB.out EC.out ?s2).mono ?_); (case s1 => exact Kd.C_below HRC.out (by repeat (first | exact HB1.out | exact Below.refl _ _ | apply below_alloc | apply pw_below_drewN | apply below_drew1))); (case s2 => exact TailLaid.below HT.out (by repeat (first | exact HB.out | apply below_alloc | apply pw_below_drewN | apply below_drew1))); rintro e w5 ⟨v2, rfl, hv2, b5⟩; have HB5Q := Aside0.mk b5; obtain ⟨Az, cz, rfl, hcz, hrz⟩ := Kd.R_reads hv2; have HB4 : Aside0 (Below w4.heap.size w4 w5) := ⟨below_step (by repeat (first | exact Below.refl _ _ | apply below_alloc | apply pw_below_drewN | apply below_drew1)) b5⟩; have BY := blk_below (blk_new w4 (.cells #[.int .i64 no, .slice Ay l.length cy] 24)) b5; replace HB := Aside0.mk (below_step (by repeat (first | exact HB.out | apply below_alloc | apply pw_below_drewN | apply below_drew1)) b5); have y0 : ∀ o, (w5.alloc o).cell? ⟨w4.heap.size, 0, none⟩ = some (.int .i64 no) := fun o => (blk_cell (blk_below BY (below_alloc (Below.refl _ _) o)) 0).trans rfl; have y1 : ∀ o, (w5.alloc o).cell? ⟨w4.heap.size, 1, none⟩ = some (.slice Ay l.length cy) := fun o => (blk_cell (blk_below BY (below_alloc (Below.refl _ _) o)) 1).trans rfl; have HBF : Aside0 (Below w1.heap.size w1 w5) := ⟨below_step (by repeat (first | exact HB1.out | apply below_alloc | apply pw_below_drewN | apply below_drew1)) HB5Q.out⟩; have q0 : ∀ o, (w5.alloc o).cell? ⟨w.heap.size, 0, none⟩ = some (.int .i64 no) := fun o => (blk_cell (blk_below (blk_below BK.out HBF.out) (below_alloc (Below.refl _ _) o)) 0).trans rfl; have q1 : ∀ o, (w5.alloc o).cell? ⟨w.heap.size, 1, none⟩ = some (.slice A l.length c) := fun o => (blk_cell (blk_below (blk_below BK.out HBF.out) (below_alloc (Below.refl _ _) o)) 1).trans rfl; clear hv2 b5 hcz hrz HB1 BY HB5Q HBF) | (go_at_call 19; (with_reducible refine (neonwrightlaw08_same.calls 100 Ay cy l A c l true _ ?s1 HCY.out ?s2 HC.out ES.out).mono ?_); (case s1 => exact Kd.C_below HRY.out (by repeat (first | exact HB4.out | exact Below.refl _ _ | apply below_alloc | apply pw_below_drewN | apply below_drew1))); (case s2 => exact Kd.C_below HR.out (by repeat (first | exact HB.out | apply below_alloc | apply pw_below_drewN | apply below_drew1))); rintro e w6 ⟨rfl, ⟨n6, rfl⟩⟩) | (go_at_call 16; refine (neonwrightlaw08_alive.calls true _ rfl (TailLaid.below HT.out (by repeat (first | exact HB.out | apply below_alloc | apply pw_below_drewN | apply below_drew1)))).mono ?_; rintro e w9 ⟨rfl, b9⟩; replace b9 := Aside0.mk (below_step (by repeat (first | exact HB.out | apply below_alloc | apply pw_below_drewN | apply below_drew1)) b9)))
          go_ret
          exact ⟨rfl, b9.out⟩


theorem b2i_01 (mb : List Bool) : Bits01 (mb.map b2i) := by
  intro x hx
  obtain ⟨b, _, rfl⟩ := List.mem_map.1 hx
  cases b
  · exact Or.inl rfl
  · exact Or.inr rfl

theorem BusBack_calls (no : Int) (A : Option Addr) (c : Nat) (l : List Int) (A2 : Option Addr) (c2 : Nat) (mb : List Bool) (w : World) (hr : Kd.C (Kd.int .i64) w A l.length l) (hc : l.length ≤ c) (hr2 : Kd.C Kd.bool w A2 mb.length mb) (ht : TailLaid w) :
    Calls Tryd.prog 7 #[.agg #[.int .i64 no, .slice A l.length c], .slice A2 mb.length c2] w fun e w' => e = .returned (.bool true) ∧ Below w.heap.size w w' := by
  by_cases hbig : 40 < l.length ∨ 30 < mb.length
  · exact back_big no A c l A2 c2 mb w hbig ht
  · have h40 : l.length ≤ 40 := by omega
    have h30 : mb.length ≤ 30 := by omega
    cases hv : vB ⟨no, l⟩
    · exact back_bad no A c l A2 c2 mb w hr hc h40 h30 hv ht
    · obtain ⟨h0, h1, h8, hb⟩ := vB_parts no l hv
      obtain ⟨s1, s2⟩ := bitsS_short no.toNat l
      have hno : ((no.toNat : Nat) : Int) = no := Int.toNat_of_nonneg h0
      have hm : ((mb.map b2i)).length ≤ 30 := by rw [List.length_map]; exact h30
      have er := Read_back no.toNat l (mb.map b2i) (by omega) h8 hb (b2i_01 mb) hm
      rw [hno] at er
      exact back_good no A c l A2 c2 mb w hr hc hr2 (bitsS no.toNat l) ((47 + 8 * l.length + (33 + 8 * l.length) / 4 : Nat) : Int) h8 h30 (by omega) s2 (by omega)
        (by rw [bus_Bits_eq, bitsAns, if_pos hv]) (longest_eq l.length h8) er (Read_cut no.toNat l h8) (fun i hi => bits_calm no.toNat l i hi) ht

end Go.Proofs.YtbanemecfobonaaDoor.B
