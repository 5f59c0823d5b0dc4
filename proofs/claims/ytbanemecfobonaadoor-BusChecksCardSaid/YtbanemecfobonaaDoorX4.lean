/- Wins. -/
import Derived.Test.YtbanemecfobonaaDoorX4a
import Derived.Test.YtbanemecfobonaaDoorX2
import Derived.Test.YtbanemecfobonaaDoorX5a
namespace Go.Proofs.YtbanemecfobonaaDoor.B
open Go.RowKit Go.Proofs.YtbanemecfobonaaDoorW.PrintWords Go.Proofs.YtbanemecfobonaaDoorW.PrintLast Go.Proofs.YtbanemecfobonaaDoorW.PrintMore
set_option linter.unusedVariables false
set_option linter.unusedSimpArgs false

/-- The number of frame i. -/
def noAt (l : List S24) (i : Nat) : Int := (l.getD i z24).f0
/-- The frame with the least number of the first k. -/
def bestOf (l : List S24) : Nat → Nat
  | 0 => 0
  | k + 1 => if noAt l k < noAt l (bestOf l k) then k else bestOf l k
/-- The numbers of the first k frames, the last first. -/
def nosOf (l : List S24) : Nat → List Int
  | 0 => []
  | k + 1 => noAt l k :: nosOf l k
/-- Is a number of the first k there twice? -/
def dupOf (l : List S24) : Nat → Bool
  | 0 => false
  | k + 1 => dupOf l k || (nosOf l k).contains (noAt l k)
/-- The first index from k on at which lists differ; none: one of them ends first. -/
def diffFrom (b won : List Int) : Nat → Nat → Option Nat
  | 0, _ => none
  | n + 1, k => if k < b.length ∧ k < won.length then (if b.getD k 0 = won.getD k 0 then diffFrom b won n (k + 1) else some k) else none
/-- The most bits that have been sent when one of the first i gave up. -/
def sentOf (l : List S24) (best : Nat) (won : List Int) : Nat → Option Int
  | 0 => some 0
  | i + 1 => (sentOf l best won i).bind fun s => if i = best then some s else
      (bus_bitsOf.f (l.getD i z24).f0 (l.getD i z24).f1).bind fun b => (diffFrom b won (b.length + 1) 0).bind fun k => some (max s ((k : Int) + 1))
def bus_Wins.f (l : List S24) : Option (Int × Int × Int) :=
  if l.length = 0 then some (0, 0, 2) else if 20 < l.length then some (0, 0, 2) else if l.any nvB then some (0, 0, 2) else if dupOf l l.length then some (0, 0, 2) else
  (bus_bitsOf.f (l.getD (bestOf l l.length) z24).f0 (l.getD (bestOf l l.length) z24).f1).bind fun won =>
    (sentOf l (bestOf l l.length) won l.length).bind fun s => some ((bestOf l l.length : Int), s, 0)

theorem bestOf_lt (l : List S24) (k : Nat) (h : 0 < l.length) (hk : k ≤ l.length) : bestOf l k < l.length := by
  induction k with
  | zero => exact h
  | succ k ih => unfold bestOf; split; · omega
                 · exact ih (by omega)
theorem noAt_wf (l : List S24) (h : l.any nvB = false) (i : Nat) (hi : i < l.length) : (Lit.int .i64 (noAt l i)).wf = true := by
  have hv : nvB (l[i]) = false := by
    have := List.any_eq_false.1 h l[i] (List.getElem_mem hi)
    simpa using this
  have e : noAt l i = l[i].f0 := by unfold noAt; rw [List.getD_eq_getElem?_getD, List.getElem?_eq_getElem hi]; rfl
  rw [e]
  simp only [nvB, vB, Bool.not_eq_eq_eq_not, Bool.not_false, Bool.and_eq_true, decide_eq_true_eq] at hv
  have h1 : 0 ≤ l[i].f0 := hv.1.1.1
  have h2 : l[i].f0 ≤ 2047 := hv.1.1.2
  simp only [Lit.wf, Bool.and_eq_true, decide_eq_true_eq]
  exact ⟨by show (-9223372036854775808 : Int) ≤ _; omega, by show _ ≤ (9223372036854775807 : Int); omega⟩
theorem dupOf_mono (l : List S24) (k : Nat) (h : dupOf l k = true) : ∀ n, k ≤ n → dupOf l n = true := by
  intro n hn
  induction n with
  | zero => obtain rfl : k = 0 := by omega
            exact h
  | succ n ih =>
    rcases Nat.lt_or_ge k (n + 1) with h1 | h1
    · unfold dupOf
      rw [ih (by omega)]; rfl
    · obtain rfl : k = n + 1 := by omega
      exact h
theorem sentOf_none (l : List S24) (best : Nat) (won : List Int) (k : Nat) (h : sentOf l best won k = none) : ∀ n, k ≤ n → sentOf l best won n = none := by
  intro n hn
  induction n with
  | zero => obtain rfl : k = 0 := by omega
            exact h
  | succ n ih =>
    rcases Nat.lt_or_ge k (n + 1) with h1 | h1
    · unfold sentOf
      rw [ih (by omega)]; rfl
    · obtain rfl : k = n + 1 := by omega
      exact h
theorem sentOf_le (l : List S24) (best : Nat) (won : List Int) (n : Nat) (s : Int) (h : sentOf l best won n = some s) (k : Nat) (hk : k ≤ n) : ∃ s', sentOf l best won k = some s' := by
  cases h' : sentOf l best won k with
  | none => rw [sentOf_none l best won k h' n hk] at h; cases h
  | some s' => exact ⟨s', rfl⟩
/-- An int below a length that memory bounds. -/
theorem i64_len (n : Nat) (h : n ≤ maxLen) : (n : Int) ≤ 9223372036854775807 := by unfold maxLen at h; omega

set_option maxHeartbeats 1000000 in
set_option maxRecDepth 100000 in
theorem bus_Wins.calls (A0 : Option Addr) (c0 : Nat) (l0 : List S24) (r1 r2 r3 : Int) (w : World) (hr0 : Kd.C k24 w A0 l0.length l0) (hc0 : l0.length ≤ c0) (h : bus_Wins.f l0 = some (r1, r2, r3)) (ht : TailLaid w) :
    Calls Tryd.prog 22 #[.slice A0 l0.length c0] w fun e w' => e = .returned (.tuple #[.int .i64 r1, .int .i64 r2, .int .i64 r3]) ∧ Below w.heap.size w w' := by
  have HI := Aside0.mk (fun W => ContainsFunc_frame.calls A0 c0 l0 W)
  have HR0 := Aside0.mk hr0
  have HC0 := Aside0.mk hc0
  have HT := Aside0.mk ht
  have HB := Aside0.mk (Below.refl w.heap.size w)
  clear hr0 hc0 ht
  have hlen : (l0.length : Int) ≤ 9223372036854775807 := by have := HR0.out.2.1; omega
  unfold bus_Wins.f at h
  by_cases h1 : l0.length = 0
  · rw [if_pos h1] at h
    simp only [Option.some.injEq, Prod.mk.injEq] at h
    obtain ⟨rfl, rfl, rfl⟩ := h
    have t1 : (((l0.length : Int)) == 0) = true := by simp [h1]
    clear h1
    go_enter Tryd.func22, Tryd.ntmps22
    go_wp2
    go_ret3
    exact ⟨rfl, HB.out⟩
  rw [if_neg h1] at h
  have t1 : (((l0.length : Int)) == 0) = false := by simpa using h1
  have HN0 := Aside0.mk h1
  clear h1
  by_cases h2 : 20 < l0.length
  · rw [if_pos h2] at h
    simp only [Option.some.injEq, Prod.mk.injEq] at h
    obtain ⟨rfl, rfl, rfl⟩ := h
    have t2 : decide (20 < l0.length) = true := decide_eq_true h2
    have t3 : decide (20 < (l0.length : Int)) = true := decide_eq_true (by omega)
    clear h2
    go_enter Tryd.func22, Tryd.ntmps22
    go_wp2
    go_ret3
    exact ⟨rfl, HB.out⟩
  rw [if_neg h2] at h
  have t2 : decide (20 < l0.length) = false := decide_eq_false h2
  have t3 : decide (20 < (l0.length : Int)) = false := decide_eq_false (by omega)
  have HL20 := Aside0.mk h2
  clear h2
  by_cases h3 : l0.any nvB = true
  · rw [if_pos h3] at h
    simp only [Option.some.injEq, Prod.mk.injEq] at h
    obtain ⟨rfl, rfl, rfl⟩ := h
    have H3 := Aside0.mk h3
    clear h3
    go_enter Tryd.func22, Tryd.ntmps22
    go_wp2_with (first | (go_at_call 57; refine (HI.out _ (by repeat (first | exact HR0.out | (with_reducible refine Kd.C_drewN ?_ _))) HC0.out).mono ?_; rw [H3.out]; rintro e w1 ⟨rfl, b1⟩; replace HB := Aside0.mk (below_step (by repeat (first | exact Below.refl _ _ | apply pw_below_drewN)) b1); clear b1))
    go_ret3
    exact ⟨rfl, HB.out⟩
  rw [if_neg h3] at h
  replace h3 : l0.any nvB = false := by simpa using h3
  have H3 := Aside0.mk h3
  have HH := Aside0.mk h
  clear h3 h
  have hu24 := Tryd.underlying24
  have hmk : ∀ w : World, (Instr.makeMap 87 none).run Tryd.prog w = .ok (.map (some w.heap.size)) (w.alloc (.map #[] 0)) := fun w => by kernel_rfl
  go_enter Tryd.func22, Tryd.ntmps22
  go_wp2_with (first | (go_at_call 57; refine (HI.out _ (by repeat (first | exact HR0.out | (with_reducible refine Kd.C_drewN ?_ _))) HC0.out).mono ?_; rw [H3.out]; rintro e w1 ⟨rfl, b1⟩; replace HB := Aside0.mk (below_step (by repeat (first | exact Below.refl _ _ | apply pw_below_drewN)) b1); clear b1))
  have HS0 := Aside0.mk (Seen.made w1)
  have HBM := Aside0.mk HB.out.size
  replace HB := Aside0.mk (below_alloc HB.out (.map #[] 0))
  go_loopg [5, 30] l0.length (fun g v5 v30 w' => ∃ b k : Int, v5 = .int .i64 b ∧ v30 = .int .i64 k ∧ 0 ≤ k ∧ k ≤ l0.length ∧ 0 ≤ b ∧ b < l0.length ∧ Aside0 (b = (bestOf l0 k.toNat : Int)) ∧ Aside0 (g = l0.length - k.toNat) ∧ Aside0 (Seen w' w1.heap.size k.toNat (nosOf l0 k.toNat)) ∧ Aside0 (dupOf l0 k.toNat = false) ∧ Aside0 (Below w.heap.size w w'))
  case atStart => exact ⟨0, 0, rfl, rfl, by omega, by omega, by omega, by have := HN0.out; omega, ⟨rfl⟩, ⟨by simp⟩, ⟨HS0.out⟩, ⟨rfl⟩, ⟨HB.out⟩⟩
  case round =>
    clear HB HS0
    obtain ⟨b, k, rfl, rfl, hk0, hk, hb0, hb, HBE, HG, HS, HD, HB⟩ := hrel
    obtain ⟨adb, Ab, cb, e0, hy0, hy1, hcb, hdb⟩ := at_T24 HR0.out b hb0 hb
    cases e0
    by_cases hlt : k < l0.length
    · obtain ⟨ad, A1, c1, e0, hx0, hx1, hc1, hd⟩ := at_T24 HR0.out k hk0 hlt
      cases e0
      clear hy1 hcb hdb hd hc1
      replace hx0 := (HB.out.cell (World.block_lt_of_cell? w _ hx0)).trans hx0
      replace hx1 := (HB.out.cell (World.block_lt_of_cell? w _ hx1)).trans hx1
      have HNO : Aside0 ((rd_T24 l0 k).f0 = noAt l0 k.toNat) := ⟨rfl⟩
      have HNB : Aside0 ((rd_T24 l0 b).f0 = noAt l0 b.toNat) := ⟨rfl⟩
      have HWF : Aside0 ((Lit.int .i64 (rd_T24 l0 k).f0).wf = true) := ⟨noAt_wf l0 H3.out k.toNat (by omega)⟩
      generalize (rd_T24 l0 k).f0 = no at HNO HWF hx0
      generalize (rd_T24 l0 k).f1.length = n1 at hx1
      generalize (rd_T24 l0 b).f0 = nb at HNB hy0
      have HS1 : Aside0 (Seen (wr.alloc (.cells #[.int .i64 no, .slice A1 n1 c1] 24)) w1.heap.size k.toNat (nosOf l0 k.toNat)) := ⟨HS.out.alloc _⟩
      have HB1 : Aside0 (Below w.heap.size w (wr.alloc (.cells #[.int .i64 no, .slice A1 n1 c1] 24))) := ⟨below_alloc HB.out _⟩
      have hlk := Seen.lookup_run HWF.out HS1.out
      cases hdu : (nosOf l0 k.toNat).contains no
      · rw [hdu] at hlk
        have HDU := Aside0.mk hdu
        have HY0 := Aside0.mk hy0
        clear hdu hy0
        go_wp2_with (first | (at_mapUpdate; refine wpList_put_seen _ rfl _ _ _ rfl w1.heap.size k.toNat (nosOf l0 k.toNat) no HWF.out rfl HS1.out (by have := HL20.out; unfold maxLen; omega) rfl rfl ?_))
        intro w2 hs2 hg2
        have hz0 : w2.cell? ⟨wr.heap.size, 0, none⟩ = some (.int .i64 no) := by
          have e1 := hg2.block wr.heap.size (by rw [World.size_alloc]; omega) (by have := HS.out.lt; intro e; have e2 := Option.some.inj e; omega)
          have e2 : w2.heap[wr.heap.size]? = some (.cells #[.int .i64 no, .slice A1 n1 c1] 24 (0, 0)) := e1.trans (blk_new _ _)
          exact (blk_cell e2 0).trans rfl
        have HB2 : Aside0 (Below w.heap.size w w2) := ⟨HB1.out.grown hg2 HB1.out.size (fun k hk => by have e2 := Option.some.inj hk; have := HBM.out; omega)⟩
        have hy0 : w2.cell? (adb.add (b.toNat * 2)) = some (.int .i64 nb) := (HB2.out.cell (World.block_lt_of_cell? w _ HY0.out)).trans HY0.out
        have HS2 := Aside0.mk hs2
        clear hs2 hg2 hlk hx0 hx1 HY0 HB1 HS1
        go_wp2
        by_cases hcm : no < nb
        · have t4 : decide (no < nb) = true := decide_eq_true hcm
          have HCM := Aside0.mk hcm
          clear hcm
          go_quiet (fail)
          go_wp2
          go_roundg (gk - 1)
          case measure => have := HG.out; omega
          case rel => exact ⟨k, k + 1, rfl, rfl, by omega, by omega, by omega, by omega, ⟨by
              have e : (k + 1).toNat = k.toNat + 1 := by omega
              have hbn : b.toNat = bestOf l0 k.toNat := by have := HBE.out; omega
              rw [e]; unfold bestOf; rw [← hbn, ← HNO.out, ← HNB.out, if_pos HCM.out]; omega⟩, ⟨by have := HG.out; omega⟩, ⟨by
              have e : (k + 1).toNat = k.toNat + 1 := by omega
              rw [e]; unfold nosOf; rw [← HNO.out]; exact HS2.out.below (by repeat (first | exact Below.refl _ _ | apply pw_below_drewN | apply below_drew1))⟩, ⟨by
              have e : (k + 1).toNat = k.toNat + 1 := by omega
              rw [e]; unfold dupOf; rw [HD.out, ← HNO.out, HDU.out]; rfl⟩, ⟨by repeat (first | exact HB2.out | apply pw_below_drewN | apply below_drew1)⟩⟩
        · have t4 : decide (no < nb) = false := decide_eq_false hcm
          have HCM := Aside0.mk hcm
          clear hcm
          go_quiet (fail)
          go_wp2
          go_roundg (gk - 1)
          case measure => have := HG.out; omega
          case rel => exact ⟨b, k + 1, rfl, rfl, by omega, by omega, by omega, by omega, ⟨by
              have e : (k + 1).toNat = k.toNat + 1 := by omega
              have hbn : b.toNat = bestOf l0 k.toNat := by have := HBE.out; omega
              rw [e]; unfold bestOf; rw [← hbn, ← HNO.out, ← HNB.out, if_neg (by have := HCM.out; omega)]; omega⟩, ⟨by have := HG.out; omega⟩, ⟨by
              have e : (k + 1).toNat = k.toNat + 1 := by omega
              rw [e]; unfold nosOf; rw [← HNO.out]; exact HS2.out.below (by repeat (first | exact Below.refl _ _ | apply pw_below_drewN | apply below_drew1))⟩, ⟨by
              have e : (k + 1).toNat = k.toNat + 1 := by omega
              rw [e]; unfold dupOf; rw [HD.out, ← HNO.out, HDU.out]; rfl⟩, ⟨by repeat (first | exact HB2.out | apply pw_below_drewN | apply below_drew1)⟩⟩
      · rw [hdu] at hlk
        have HDU := Aside0.mk hdu
        clear hdu hy0
        go_wp2
        go_ret3
        have hd1 : dupOf l0 (k.toNat + 1) = true := by unfold dupOf; rw [← HNO.out, HDU.out]; simp
        have hd2 := dupOf_mono l0 _ hd1 l0.length (by omega)
        have h := HH.out
        rw [if_pos hd2] at h
        simp only [Option.some.injEq, Prod.mk.injEq] at h
        obtain ⟨rfl, rfl, rfl⟩ := h
        exact ⟨rfl, HB1.out⟩
    · obtain rfl : k = l0.length := by omega
      have hkk : ((l0.length : Int)).toNat = l0.length := by omega
      have hdf : dupOf l0 l0.length = false := hkk ▸ HD.out
      have hbe : b.toNat = bestOf l0 l0.length := by have := HBE.out; rw [hkk] at this; omega
      have h := HH.out
      rw [hdf, ← hbe] at h
      simp only [Bool.false_eq_true, if_false] at h
      obtain ⟨won, hwon, h⟩ := Option.bind_eq_some_iff.mp h
      obtain ⟨sN, hsN, h⟩ := Option.bind_eq_some_iff.mp h
      simp only [Option.some.injEq, Prod.mk.injEq] at h
      obtain ⟨hr1, rfl, rfl⟩ := h
      obtain rfl : b = r1 := by omega
      have HSN := Aside0.mk hsN
      clear HS HD HBE HH hsN hdf hbe hr1 HBM HG H3
      replace hy0 := (HB.out.cell (World.block_lt_of_cell? w _ hy0)).trans hy0
      replace hy1 := (HB.out.cell (World.block_lt_of_cell? w _ hy1)).trans hy1
      have HV := Aside0.mk (bus_bitsOf.calls (rd_T24 l0 b).f0 Ab cb (rd_T24 l0 b).f1 won wr (Kd.C_below hdb HB.out) hcb hwon (TailLaid.below HT.out HB.out))
      clear hdb hcb hwon
      go_wp2_with (first | (go_at_call 45; refine HV.out.mono ?_; rintro e w3 ⟨v, rfl, hv, b3⟩; obtain ⟨Aw, cw, rfl, hcw, hrw⟩ := Kd.R_reads hv; clear hv; have HW := Aside0.mk hrw; have HCW := Aside0.mk hcw; have HB3 := Aside0.mk (below_step HB.out b3); clear b3 hrw hcw HV hy0 hy1 HB))
      go_loopg [10, 59] l0.length (fun g v10 v59 w' => ∃ s i : Int, v10 = .int .i64 s ∧ v59 = .int .i64 i ∧ 0 ≤ i ∧ i ≤ l0.length ∧ Aside0 (g = l0.length - i.toNat) ∧ Aside0 (sentOf l0 b.toNat won i.toNat = some s) ∧ Aside0 (Below w.heap.size w w') ∧ Aside0 (Below w3.heap.size w3 w'))
      case atStart => exact ⟨0, 0, rfl, rfl, by omega, by omega, ⟨by simp⟩, ⟨rfl⟩, ⟨HB3.out⟩, ⟨Below.refl _ _⟩⟩
      case round =>
        clear HB3
        obtain ⟨s, i, rfl, rfl, hi0, hi, HG, HSI, HB, HB3⟩ := hrel
        by_cases hlt2 : i < l0.length
        · obtain ⟨ad, A1, c1, e0, hx0, hx1, hc1, hd⟩ := at_T24 HR0.out i hi0 hlt2
          cases e0
          replace hx0 := (HB.out.cell (World.block_lt_of_cell? w _ hx0)).trans hx0
          replace hx1 := (HB.out.cell (World.block_lt_of_cell? w _ hx1)).trans hx1
          by_cases hib : i = b
          · have t5 : (i == b) = true := by simp [hib]
            have HIB := Aside0.mk hib
            clear hib hd hc1
            go_wp2
            go_roundg (gk - 1)
            case measure => have := HG.out; omega
            case rel => exact ⟨s, i + 1, rfl, rfl, by omega, by omega, ⟨by have := HG.out; omega⟩, ⟨by
              have e : (i + 1).toNat = i.toNat + 1 := by omega
              rw [e]; unfold sentOf; rw [HSI.out]; simp only [Option.bind_some]; rw [if_pos (by have := HIB.out; omega)]⟩, ⟨below_alloc HB.out _⟩, ⟨below_alloc HB3.out _⟩⟩
          · have t5 : (i == b) = false := by simp [hib]
            have HIB := Aside0.mk hib
            have hsn := sentOf_le l0 b.toNat won l0.length sN HSN.out (i.toNat + 1) (by omega)
            obtain ⟨s', hs'⟩ := hsn
            have hs2 := hs'
            unfold sentOf at hs2
            rw [HSI.out] at hs2
            simp only [Option.bind_some, if_neg (show ¬ i.toNat = b.toNat by omega)] at hs2
            obtain ⟨bl, hbl, hs2⟩ := Option.bind_eq_some_iff.mp hs2
            obtain ⟨kd, hkd, hs2⟩ := Option.bind_eq_some_iff.mp hs2
            simp only [Option.some.injEq] at hs2
            have HS' := Aside0.mk hs'
            have HKD := Aside0.mk hkd
            have HS2 := Aside0.mk hs2
            clear hib hs' hkd hs2
            have HV := Aside0.mk (bus_bitsOf.calls (rd_T24 l0 i).f0 A1 c1 (rd_T24 l0 i).f1 bl (wr.alloc (.cells #[.int .i64 (rd_T24 l0 i).f0, .slice A1 (rd_T24 l0 i).f1.length c1] 24)) (Kd.C_below hd (below_alloc HB.out _)) hc1 hbl (TailLaid.below HT.out (below_alloc HB.out _)))
            clear hd hc1 hbl
            go_wp2_with (first | (go_at_call 45; refine HV.out.mono ?_; rintro e w5 ⟨v, rfl, hv, b5⟩; obtain ⟨Al, cl, rfl, hcl, hrl⟩ := Kd.R_reads hv; clear hv; have HL := Aside0.mk hrl; have HCL := Aside0.mk hcl; have HB5 := Aside0.mk (below_step (below_alloc HB.out _) b5); have HB35 := Aside0.mk (below_step (below_alloc HB3.out _) b5); clear b5 hrl hcl HV hx0 hx1 HB HB3))
            go_loopg [13] (bl.length + 1) (fun g v13 w' => ∃ k : Int, v13 = .int .i64 k ∧ 0 ≤ k ∧ k ≤ bl.length ∧ Aside0 (diffFrom bl won g k.toNat = some kd) ∧ Drawn0 w5 w')
            case atStart => exact ⟨0, rfl, by omega, by omega, ⟨HKD.out⟩, by repeat (first | exact Drawn0.refl _ | apply Drawn0.step)⟩
            case round =>
              obtain ⟨k, rfl, hk0, hkb, HDF, ⟨m1, rfl⟩⟩ := hrel
              have hdf := HDF.out
              cases hgi : gk with
              | zero => rw [hgi] at hdf; simp [diffFrom] at hdf
              | succ n =>
                rw [hgi] at hdf
                unfold diffFrom at hdf
                have HGI := Aside0.mk hgi
                clear hgi HDF
                by_cases hin : k.toNat < bl.length ∧ k.toNat < won.length
                · rw [if_pos hin] at hdf
                  obtain ⟨adl, el, hxl⟩ := Kd.at_int HL.out k hk0 (by omega)
                  cases el
                  obtain ⟨adw, ew, hxw⟩ := Kd.at_int (Kd.C_below HW.out HB35.out) k hk0 (by omega)
                  cases ew
                  have hkl : k < bl.length := by omega
                  have hkw : k < won.length := by omega
                  replace hdf : (if rd bl k = rd won k then diffFrom bl won n (k.toNat + 1) else some k.toNat) = some kd := hdf
                  have HDF := Aside0.mk hdf
                  have HBL := Aside0.mk (HL.out.2.1)
                  have hbl64 : (bl.length : Int) ≤ 9223372036854775807 := by have := HBL.out; omega
                  clear hdf hin HBL
                  generalize rd bl k = x at HDF hxl
                  generalize rd won k = y at HDF hxw
                  by_cases hxy : x = y
                  · have t6 : (x == y) = true := by simp [hxy]
                    have hd2 := HDF.out
                    rw [if_pos hxy] at hd2
                    have HD2 := Aside0.mk hd2
                    clear hd2 hxy HDF
                    go_wp2
                    go_quiet (fail)
                    go_wp2
                    go_roundg n
                    case measure => have := HGI.out; omega
                    case rel => exact ⟨k + 1, rfl, by omega, by omega, ⟨by
                      have e : (k + 1).toNat = k.toNat + 1 := by omega
                      rw [e]; exact HD2.out⟩, by repeat (first | exact Drawn0.refl _ | apply Drawn0.step)⟩
                  · have t6 : (x == y) = false := by simp [hxy]
                    have hd2 := HDF.out
                    rw [if_neg hxy] at hd2
                    have HD2 := Aside0.mk (Option.some.inj hd2)
                    clear hd2 hxy HDF
                    go_wp2
                    go_quiet (fail)
                    go_wp2
                    case inr =>
                      go_roundg (l0.length - (i + 1).toNat)
                      case measure => have := HG.out; omega
                      case rel => exact ⟨s, i + 1, rfl, rfl, by omega, by omega, ⟨rfl⟩, ⟨by
                        have e : (i + 1).toNat = i.toNat + 1 := by omega
                        have e2 : s' = s := by have h2 := HS2.out; have h3 := HD2.out; omega
                        rw [e, HS'.out, e2]⟩, ⟨by repeat (first | exact HB5.out | apply pw_below_drewN | apply below_drew1)⟩, ⟨by repeat (first | exact HB35.out | apply pw_below_drewN | apply below_drew1)⟩⟩
                    case inl =>
                      go_roundg (l0.length - (i + 1).toNat)
                      case measure => have := HG.out; omega
                      case rel => exact ⟨(k + 1), i + 1, rfl, rfl, by omega, by omega, ⟨rfl⟩, ⟨by
                        have e : (i + 1).toNat = i.toNat + 1 := by omega
                        have e2 : s' = (k + 1) := by have h2 := HS2.out; have h3 := HD2.out; omega
                        rw [e, HS'.out, e2]⟩, ⟨by repeat (first | exact HB5.out | apply pw_below_drewN | apply below_drew1)⟩, ⟨by repeat (first | exact HB35.out | apply pw_below_drewN | apply below_drew1)⟩⟩
                · rw [if_neg hin] at hdf
                  cases hdf
        · obtain rfl : i = l0.length := by omega
          have h := HSI.out
          rw [hkk, HSN.out] at h
          obtain rfl : sN = s := Option.some.inj h
          clear h
          go_wp2
          go_ret3
          exact ⟨rfl, HB.out⟩
end Go.Proofs.YtbanemecfobonaaDoor.B
