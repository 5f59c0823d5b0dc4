/- Written by a program (lite.py) from my texts. -/
import Derived.Test.YtbanemecfobonaaDoorBLawBusNeverv
import Derived.Test.YtbanemecfobonaaDoorU31v
import Derived.Test.YtbanemecfobonaaDoorU32v
namespace Go.Proofs.YtbanemecfobonaaDoor.Pure
open Go.RowKit Go.Proofs.YtbanemecfobonaaDoor.B Go.Proofs.YtbanemecfobonaaDoorW.PrintWords Go.Proofs.YtbanemecfobonaaDoorW.PrintLast Go.Proofs.YtbanemecfobonaaDoorW.PrintMore
set_option linter.unusedVariables false
set_option linter.unusedSimpArgs false
theorem few_l0N (l : List S55) (la : List (List Int)) : ∀ m j, la.length - j = m → (∃ b, EvS (fun k => w8_few.l0 k l la (j : Int)) (some b) ∧ (b = true → (∀ i, j ≤ i → i < la.length → (rd_L1 la (i : Int)).length ≤ 1000) ∧ (j < la.length → la.length ≤ 20)))
  | 0, j, hm => ⟨decide ((l.length : Int) ≤ 20), EvS.now 0 fun k _ => by
      rw [w8_few.l0, if_neg (by omega)], fun _ => ⟨fun i h1 h2 => by omega, fun h => by omega⟩⟩
  | m + 1, j, hm => by
    by_cases hj : (j : Int) ≥ 20
    · refine ⟨false, EvS.now 0 fun k _ => ?_, fun h => by cases h⟩
      rw [w8_few.l0, if_pos (by omega), if_pos hj]
    by_cases hb : (((rd_L1 la (j : Int)).length : Int) > 1000)
    · refine ⟨false, EvS.now 0 fun k _ => ?_, fun h => by cases h⟩
      rw [w8_few.l0, if_pos (by omega), if_neg hj, if_pos (by omega), if_pos hb]
    obtain ⟨b, h1, h2⟩ := few_l0N l la m (j + 1) (by omega)
    refine ⟨b, h1.succ 0 fun k _ => ?_, fun h => ⟨fun i h3 h4 => ?_, fun h3 => ?_⟩⟩
    · rw [w8_few.l0, if_pos (by omega), if_neg hj, if_pos (by omega), if_neg hb, nNx j (by omega)]
    · by_cases hi : i = j
      · subst hi; omega
      · exact (h2 h).1 i (by omega) h4
    · by_cases h5 : j + 1 < la.length
      · exact (h2 h).2 h5
      · omega
theorem never_l2 (s : List S74) (hl : s.length ≤ 20000) (hup : ∀ k, k + 1 < s.length → (rd_T74 s (k : Int)).f2 < (rd_T74 s ((k + 1 : Nat) : Int)).f2) : ∀ m j : Nat, s.length - j = m → 1 ≤ j → EvS (fun k => w8_BusNever.l2 k s (s.length : Int) (j : Int)) (some true)
  | 0, j, hm, hj => EvS.now 0 fun k _ => by
      rw [w8_BusNever.l2, if_neg (by omega), if_pos rfl]; rfl
  | m + 1, j, hm, hj => by
    refine (never_l2 s hl hup m (j + 1) (by omega) (by omega)).succ 0 fun k _ => ?_
    have e : wrap64 ((j : Int) - 1) = ((j - 1 : Nat) : Int) := by rw [w64s _ (by omega) (by omega)]; omega
    have h := hup (j - 1) (by omega)
    rw [show j - 1 + 1 = j by omega] at h
    rw [w8_BusNever.l2, if_pos (by omega), if_pos (by omega), e, if_pos (by omega), if_pos (by omega), if_neg (by omega), nNx j (by omega)]
section
variable (l : List S55) (la : List (List Int)) (T : Int) (hs : sentB l = true) (hok : okFrom l la 0)
variable {n : Nat} {ix : Nat → Nat} {st : Nat → Int} {g : Nat → Nat → Nat} {s : List S74} (H : B.Told l la T n ix st g s) (hn : n ≤ 20000)
include hs hok H hn
theorem never_l1 (i : Nat) (hi : i < l.length) (d e : Int) (hd : e = 0 → d ≤ 10000000 ∧ 0 ≤ d ∧ ∀ k, k < n → ix k = i → st k + bitsM (rd_T55 l (i : Int)) ≤ (g k i : Int) * (rd_T55 l (i : Int)).f2 + d) (last : Int)
    (r : Option Bool) (hr : EvS (fun k => w8_BusNever.l0 k l s (wrap64 (last + (g n i : Int))) ((i + 1 : Nat) : Int)) r) :
    ∀ m k : Nat, n - k = m → k ≤ n → EvS (fun q => w8_BusNever.l1 q l s last (i : Int) d e (g k i : Int) (k : Int)) r
  | 0, k, hm, hk => by
    obtain rfl : k = n := by omega
    have hlen := H.len
    refine hr.succ 0 fun q _ => ?_
    rw [w8_BusNever.l1, if_neg (by omega), nNx i (by have := sentB_oks l hs; omega)]
  | m + 1, k, hm, hk => by
    have hl := (sentB_oks l hs).2
    have h8 := (sentB_oks l hs).1
    have hlen := H.len
    have hrow := H.row k (by omega)
    have hnx := H.sched.next k (by omega) i
    have hgk : g k i ≤ k := H.count_le i k (by omega)
    obtain ⟨_, _, _, _, p1, p2, p3, p4⟩ := okM_bounds (hl i hi)
    have hjT : 0 ≤ (g k i : Int) * (rd_T55 l (i : Int)).f2 ∧ (g k i : Int) * (rd_T55 l (i : Int)).f2 ≤ 20000 * 100000 := ⟨Int.mul_nonneg (by omega) (by omega), Int.mul_le_mul (by omega) p2 (by omega) (by omega)⟩
    have ih := never_l1 i hi d e hd last r hr m (k + 1) (by omega) (by omega)
    refine ih.succ 0 fun q _ => ?_
    rw [w8_BusNever.l1, if_pos (by omega), if_pos (by omega), if_pos (by omega), if_pos (by omega), hrow, hnx]
    by_cases c : ix k = i
    · subst c
      have hdue := H.sched.due k (by omega)
      have hb := dD_bounds hl hok (ix k) hi (g k (ix k))
      have hC := bitsM_bounds (hl (ix k) hi)
      rw [if_pos rfl, if_pos rfl, w64s ((g k (ix k) : Int) * _) (by omega) (by omega), w64s ((g k (ix k) : Int) * _ + (rd_T55 l (ix k : Int)).f3) (by omega) (by omega)]
      simp only
      rw [if_neg (by omega), if_neg (by omega), if_neg (by omega), nNx k (by omega), nNx (g k (ix k)) (by omega)]
      by_cases c0 : e = 0
      · obtain ⟨d1, d2, d3⟩ := hd c0
        have := d3 k (by omega) rfl
        rw [if_pos c0, w64s ((g k (ix k) : Int) * _ + d) (by omega) (by omega), if_neg (by omega)]
      · rw [if_neg c0]
    · have hne : ¬ (rd_T55 l (ix k : Int)).f0 = (rd_T55 l (i : Int)).f0 := fun h => c (sentB_uniqN l hs (ix k) i (H.sched.ixl k (by omega)) hi h)
      rw [if_neg hne, if_neg (fun h => c h.symm), nNx k (by omega)]
theorem never_l0 : ∀ m i : Nat, l.length - i = m → i ≤ l.length → EvS (fun k => w8_BusNever.l0 k l s ((sumTo (g n) i : Nat) : Int) (i : Int)) (some true)
  | 0, i, hm, hi => by
    obtain rfl : i = l.length := by omega
    have hlen := H.len
    have hl := (sentB_oks l hs).2
    have e : sumTo (g n) l.length = s.length := by rw [H.count_all n (Nat.le_refl _)]; exact hlen.symm
    rw [e]
    have h2 := never_l2 s (by omega) (fun k hk => by
      rw [H.row k (by omega), H.row (k + 1) (by omega)]
      have := H.up k (by omega)
      have := bitsM_bounds (hl _ (H.sched.ixl (k + 1) (by omega)))
      simp only; omega) (s.length - 1) 1 (by omega) (by omega)
    refine h2.succ 0 fun k _ => ?_
    rw [w8_BusNever.l0, if_neg (by omega)]
    rfl
  | m + 1, i, hm, hi => by
    have h8 := (sentB_oks l hs).1
    have hl := (sentB_oks l hs).2
    have hsum : sumTo (g n) (i + 1) = sumTo (g n) i + g n i := rfl
    have hle : sumTo (g n) (i + 1) ≤ 20000 := by
      have := sumTo_mono (g n) (i + 1) l.length (by omega)
      rw [H.count_all n (Nat.le_refl _)] at this; omega
    have ih := never_l0 m (i + 1) (by omega) (by omega)
    obtain ⟨e, d, hD, he, hd⟩ := H.delay_told hs hok i (by omega)
    have h1 := never_l1 l la T hs hok H hn i (by omega) d e hd ((sumTo (g n) i : Nat) : Int) (some true) (by
      rw [w64s _ (by omega) (by omega), show ((sumTo (g n) i : Nat) : Int) + (g n i : Int) = ((sumTo (g n) (i + 1) : Nat) : Int) by omega]; exact ih) n 0 (by omega) (by omega)
    rw [H.sched.zero i] at h1
    have hj : EvS (fun k => w8_BusNever.j1 k l s ((sumTo (g n) i : Nat) : Int) (i : Int) d e false) (some true) := h1.succ 0 fun k _ => by rw [w8_BusNever.j1, if_neg (by decide)]; rfl
    refine hj.succ 0 fun k _ => ?_
    have hD2 : bus_Delay.f l (rd_T55 l (i : Int)).f0 = some (d, e) := hD
    rw [w8_BusNever.l0, if_pos (by omega), if_pos (by omega), hD2, Option.bind_some]
    rcases he with rfl | rfl
    · rw [if_pos rfl]
    · rw [if_neg (fun h => absurd (show (10 : Int) = 0 from h) (by decide))]; rfl
end
theorem BusNever (l : List S55) (la : List (List Int)) (T : Int) : ∃ k, w8_BusNever.f k l la T = some true := by
  (obtain ⟨b, hf, hb⟩ := few_l0N l la la.length 0 (by omega)); (have hf2 : EvS (fun k => w8_few.f k l la) (some b) := hf.same fun k => rfl); obtain ⟨K1, hf2⟩ := hf2; cases b
  · (refine ⟨K1, ?_⟩); (have h1 : w8_few.f K1 l la = some false := hf2 K1 (Nat.le_refl _)); (unfold w8_BusNever.f); rw [h1, Option.bind_some, if_neg (by decide)]; rfl
  (obtain ⟨r, ⟨K2, h2⟩, h3⟩ := Send_sched l la T (fun i hi => (hb rfl).1 i (by omega) hi)); (rcases h3 with ⟨h3, h4⟩ | ⟨h3, hs, hok, hlen, n, ix, st, g, H⟩)
  · (refine ⟨max K1 K2, ?_⟩); (have e1 : w8_few.f (max K1 K2) l la = some true := hf2 _ (by omega)); (have e2 : bus_Send.f (max K1 K2) l la T = some r := h2 _ (by omega)); (unfold w8_BusNever.f); rw [e1, Option.bind_some, if_pos rfl, e2, Option.bind_some, if_neg h3, h4]; rfl
  (have hn : n ≤ 20000 := by have := H.len; omega); (obtain ⟨K3, h5⟩ := never_l0 l la T hs hok H hn l.length 0 (by omega) (by omega)); (refine ⟨max K1 (max K2 K3), ?_⟩); (have e1 : w8_few.f (max K1 (max K2 K3)) l la = some true := hf2 _ (by omega)); (have e2 : bus_Send.f (max K1 (max K2 K3)) l la T = some r := h2 _ (by omega)); (have e3 : w8_BusNever.l0 (max K1 (max K2 K3)) l r.1 0 0 = some true := h5 _ (by omega)); (unfold w8_BusNever.f); rw [e1, Option.bind_some, if_pos rfl, e2, Option.bind_some, if_pos h3]; (exact e3)
end Go.Proofs.YtbanemecfobonaaDoor.Pure
