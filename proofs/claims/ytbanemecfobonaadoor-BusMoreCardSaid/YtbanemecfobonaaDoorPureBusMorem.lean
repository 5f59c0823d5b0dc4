/- Written by a program (lite.py) from my texts. -/
import Derived.Test.YtbanemecfobonaaDoorBLawBusMorem
import Derived.Test.YtbanemecfobonaaDoorGSm
namespace Go.Proofs.YtbanemecfobonaaDoor.Pure
open Go.RowKit Go.Proofs.YtbanemecfobonaaDoor.B Go.Proofs.YtbanemecfobonaaDoorW.PrintWords Go.Proofs.YtbanemecfobonaaDoorW.PrintLast Go.Proofs.YtbanemecfobonaaDoorW.PrintMore
set_option linter.unusedVariables false
set_option linter.unusedSimpArgs false
theorem rd55_put (l : List S55) (i : Nat) (v : S55) (k : Nat) (hk : k < l.length) : rd_T55 (l.set i v) (k : Int) = if k = i then v else rd_T55 l (k : Int) := by
  show (l.set i v).getD k z55 = if k = i then v else l.getD k z55
  rw [List.getD_eq_getElem?_getD, List.getD_eq_getElem?_getD, List.getElem?_set]
  by_cases e : i = k
  · subst e; rw [if_pos rfl, if_pos hk, if_pos rfl]; rfl
  · rw [if_neg e, if_neg (fun h => e h.symm)]
theorem fromRatio_val (n d : Int) (h0 : 0 ≤ n) (h1 : n ≤ 4611686018427387904) (h2 : 0 < d) (h3 : d ≤ 4611686018427387904) : EvP (fun k => r1_FromRatio.f k n d) (fun r => IsR r n d ∧ r.2.1.length ≤ 5 ∧ r.2.2.2.length ≤ 5) := by
  refine (fracD n d h0 (by omega) h2 (by omega)).same fun k => ?_
  show r1_FromRatio.f k n d = _
  unfold r1_FromRatio.f
  cases r1_Frac.f k n d <;> rfl
theorem low_le (N D N' D' : Int) (hD : 0 < D) (hD' : 0 < D') (h : N * D' ≤ N' * D) : N / (Int.gcd N D : Int) * (D' / (Int.gcd N' D' : Int)) ≤ N' / (Int.gcd N' D' : Int) * (D / (Int.gcd N D : Int)) := by
  have e1 : N / (Int.gcd N D : Int) * (Int.gcd N D : Int) = N := Int.ediv_mul_cancel (Int.gcd_dvd_left _ _)
  have e2 : D / (Int.gcd N D : Int) * (Int.gcd N D : Int) = D := Int.ediv_mul_cancel (Int.gcd_dvd_right _ _)
  have e3 : N' / (Int.gcd N' D' : Int) * (Int.gcd N' D' : Int) = N' := Int.ediv_mul_cancel (Int.gcd_dvd_left _ _)
  have e4 : D' / (Int.gcd N' D' : Int) * (Int.gcd N' D' : Int) = D' := Int.ediv_mul_cancel (Int.gcd_dvd_right _ _)
  have g1 := gcd_pos N D hD
  have g2 := gcd_pos N' D' hD'
  generalize N / (Int.gcd N D : Int) = n at *
  generalize D / (Int.gcd N D : Int) = d at *
  generalize (Int.gcd N D : Int) = g at *
  generalize N' / (Int.gcd N' D' : Int) = n' at *
  generalize D' / (Int.gcd N' D' : Int) = d' at *
  generalize (Int.gcd N' D' : Int) = g' at *
  apply Int.le_of_mul_le_mul_right (a := g * g') _ (Int.mul_pos g1 g2)
  have a : n * d' * (g * g') = (n * g) * (d' * g') := by grind
  have b : n' * d * (g * g') = (n' * g') * (d * g) := by grind
  rw [a, b, e1, e2, e3, e4]; exact h
theorem low_pos (N D : Int) (hN : 0 ≤ N) (hD : 0 < D) : 0 ≤ N / (Int.gcd N D : Int) ∧ 0 < D / (Int.gcd N D : Int) := by
  have g1 := gcd_pos N D hD
  have e2 : D / (Int.gcd N D : Int) * (Int.gcd N D : Int) = D := Int.ediv_mul_cancel (Int.gcd_dvd_right _ _)
  refine ⟨Int.ediv_nonneg hN (by omega), ?_⟩
  rcases Int.lt_or_le 0 (D / (Int.gcd N D : Int)) with h | h
  · exact h
  · exfalso
    have : D / (Int.gcd N D : Int) * (Int.gcd N D : Int) ≤ 0 * (Int.gcd N D : Int) := Int.mul_le_mul_of_nonneg_right h (by omega)
    omega
theorem more_j3 (l m : List S55) (hl : sentB l = true) (hm : sentB m = true) (hd : Dom l m) : EvS (fun k => w8_BusMore.j3 k (loadSpec l).2.2 (loadSpec m).2.2 false (loadSpec l).1 (loadSpec l).2.1 (loadSpec m).1 (loadSpec m).2.1) (some true) := by
  (have hl' := sentB_oks l hl); (have hm' := sentB_oks m hm); (have hf := hd.frac hl'.2 hm'.2); (have p1 := frac_pos l hl'.2 l.length (Nat.le_refl _)); (have p2 := frac_pos m hm'.2 m.length (Nat.le_refl _)); (have hle := low_le _ _ _ _ p1.2 p2.2 hf); (have q1 := low_pos _ _ p1.1 p1.2); (have q2 := low_pos _ _ p2.1 p2.2); (have nl : ¬ sentB l = false := by rw [hl]; simp); (have nm : ¬ sentB m = false := by rw [hm]; simp); (unfold loadSpec); rw [if_neg nl, if_neg nm]; (generalize (fracTo l l.length).1 / (Int.gcd (fracTo l l.length).1 (fracTo l l.length).2 : Int) = n1 at *); (generalize (fracTo l l.length).2 / (Int.gcd (fracTo l l.length).1 (fracTo l l.length).2 : Int) = d1 at *); (generalize (fracTo m m.length).1 / (Int.gcd (fracTo m m.length).1 (fracTo m m.length).2 : Int) = n2 at *); (generalize (fracTo m m.length).2 / (Int.gcd (fracTo m m.length).1 (fracTo m m.length).2 : Int) = d2 at *); clear hf p1 p2; by_cases c1 : 4611686018427387904 < n1 ∨ 4611686018427387904 < d1
  · rw [if_pos c1]; (exact EvS.now 0 fun k _ => by rw [w8_BusMore.j3, if_neg (by decide), if_neg (by decide)]; rfl)
  rw [if_neg c1]; by_cases c2 : 4611686018427387904 < n2 ∨ 4611686018427387904 < d2
  · rw [if_pos c2]; (exact EvS.now 0 fun k _ => by rw [w8_BusMore.j3, if_neg (by decide), if_pos rfl, if_neg (by decide)]; rfl)
  rw [if_neg c2]; (obtain ⟨r1, ⟨K1, h1⟩, i1, l1, l2⟩ := fromRatio_val n1 d1 q1.1 (by omega) q1.2 (by omega)); (obtain ⟨r2, ⟨K2, h2⟩, i2, l3, l4⟩ := fromRatio_val n2 d2 q2.1 (by omega) q2.2 (by omega)); (obtain ⟨K3, h3⟩ := cmpQ r1 r2 _ _ _ _ i1 i2 q1.2 q2.2 (by omega) (by omega) (by omega) (by omega)); (refine EvS.now (K1 + K2 + K3) fun k hk => ?_); (have h1 : r1_FromRatio.f k n1 d1 = some r1 := h1 k (by omega)); (have h2 : r1_FromRatio.f k n2 d2 = some r2 := h2 k (by omega)); (have h3 : r1_Cmp.f k r1.1 r1.2.1 r1.2.2.1 r1.2.2.2 r2.1 r2.2.1 r2.2.2.1 r2.2.2.2 = some (sgnC (n1 * d2) (n2 * d1)) := h3 k (by omega)); rw [w8_BusMore.j3, if_neg (by decide), if_pos rfl, if_pos rfl, h1, Option.bind_some, h2, Option.bind_some, h3, Option.bind_some, if_pos ((sgn_le _ _).mpr hle)]; rfl
theorem load_nil : loadSpec [] = (0, 1, 0) := by
  have e : (fracTo [] ([] : List S55).length) = (0, 1) := rfl
  unfold loadSpec
  rw [if_neg (by decide), e]
  decide
theorem more_j2 (l m : List S55) (hl : sentB l = true) (hm : sentB m = true) (hd : Dom l m) : EvS (fun k => w8_BusMore.j2 k l m false) (some true) := by
  refine (more_j3 l m hl hm hd).succ 0 fun k _ => ?_
  have e1 : bus_Load.f l = some (loadSpec l) := rfl
  have e2 : bus_Load.f m = some (loadSpec m) := rfl
  have e3 : bus_Load.f [] = some (0, 1, 0) := congrArg some load_nil
  rw [w8_BusMore.j2, if_neg (by decide), e1, Option.bind_some, e2, Option.bind_some, e3, Option.bind_some, if_pos rfl]
  rfl
theorem more_j1 (l m : List S55) (no : Int) (hl : sentB l = true) (hd : Dom l m) : EvS (fun k => w8_BusMore.j1 k l no (delaySpec l no).1 (delaySpec l no).2 m) (some true) := by
  (obtain ⟨K, hM⟩ := Messages_eq m); (cases hm : sentB m)
  · (refine EvS.now K fun k hk => ?_); (have hM : r8_Messages.f k m = _ := hM k hk); rw [w8_BusMore.j1, hM, hm, Option.bind_some, if_neg (by decide)]; rfl
  by_cases c6 : (delaySpec l no).2 = 6
  · have e0 : (delaySpec l no).1 = 0 := by
      unfold delaySpec at c6 ⊢
      split at c6
      · cases c6
      · split at c6
        · rename_i h1 h2
          rw [if_neg h1, if_pos h2]
        · split at c6 <;> cases c6
    (refine EvS.now K fun k hk => ?_); (have hM : r8_Messages.f k m = _ := hM k hk); rw [w8_BusMore.j1, hM, hm, Option.bind_some, if_pos rfl, if_pos c6, if_pos e0]; rfl
  have hi : ¬ idxTo l no l.length 0 < 0 := fun h => c6 (by
    unfold delaySpec
    rw [if_neg (by rw [hl]; simp), if_pos h])
  (obtain ⟨D1, D2⟩ := hd.delay hl hm no hi); (refine (more_j2 l m hl hm hd).succ K fun k hk => ?_); (have hM : r8_Messages.f k m = _ := hM k hk); (have e1 : bus_Delay.f m no = some (delaySpec m no) := rfl); rw [w8_BusMore.j1, hM, hm, Option.bind_some, if_pos rfl, if_neg c6, e1, Option.bind_some]; by_cases c0 : (delaySpec m no).2 = 0
  · (obtain ⟨D3, D4⟩ := D1 c0); rw [if_pos c0, if_pos D3, if_neg (by omega)]
  rw [if_neg c0]
  have e10 : (delaySpec m no).2 = 10 := by
    rcases D2 with h | h
    · exact absurd h c0
    · exact h
  rw [e10]; rfl
theorem dom_put (l : List S55) (i : Nat) (v : S55) (hi : i < l.length) (h0 : v.f0 = (rd_T55 l (i : Int)).f0) (h1 : (rd_T55 l (i : Int)).f1 = v.f1) (h2 : v.f2 ≤ (rd_T55 l (i : Int)).f2) (h3 : (rd_T55 l (i : Int)).f3 ≤ v.f3) : Dom l (l.set i v) := by
  refine ⟨by rw [List.length_set]; exact Nat.le_refl _, fun k hk => ?_⟩
  rw [rd55_put l i v k hk]
  by_cases e : k = i
  · subst e; rw [if_pos rfl]; exact ⟨h0, h1, h2, h3⟩
  · rw [if_neg e]; exact ⟨rfl, rfl, Int.le_refl _, Int.le_refl _⟩
theorem dom_snoc (l : List S55) (v : S55) : Dom l (l ++ [v]) := by
  refine ⟨by simp, fun k hk => ?_⟩
  rw [rd_T55_snoc, if_neg (by omega)]
  exact ⟨rfl, rfl, Int.le_refl _, Int.le_refl _⟩
theorem more_j0 (l : List S55) (no how many a b c d : Int) (hl : sentB l = true) (h1 : 1 ≤ l.length) (hh0 : 0 ≤ how) (hh1 : how ≤ 65535) (hm0 : 0 ≤ many) (hm1 : many ≤ 65535) : EvS (fun k => w8_BusMore.j0 k l no how many false a b c d) (some true) := by
  (have hl' := sentB_oks l hl); (have e1 : bus_Delay.f l no = some (delaySpec l no) := rfl)
  have et : Int.tmod (wrap64 how) (l.length : Int) = how % (l.length : Int) := by
    rw [w64s how (by omega) (by omega), Int.tmod_eq_emod_of_nonneg hh0]
  (have t0 := Int.emod_nonneg how (show (l.length : Int) ≠ 0 by omega)); (have t1 := Int.emod_lt_of_pos how (show 0 < (l.length : Int) by omega)); (obtain ⟨i, hi⟩ : ∃ i : Nat, how % (l.length : Int) = (i : Int) := Int.eq_ofNat_of_zero_le t0); rw [hi] at et t1; (have hil : i < l.length := by omega); (have ho := hl'.2 i hil); (obtain ⟨_, _, _, _, p1, p2, p3, p4⟩ := okM_bounds ho)
  have step : ∀ m, Dom l m → (∀ k, w8_BusMore.j0 (k + 1) l no how many false a b c d = w8_BusMore.j1 k l no (delaySpec l no).1 (delaySpec l no).2 m) → EvS (fun k => w8_BusMore.j0 k l no how many false a b c d) (some true) :=
    fun m hd hs => (more_j1 l m no hl hd).succ 0 fun k _ => hs k
  (have base : ∀ k, w8_BusMore.j0 (k + 1) l no how many false a b c d = _ := fun k => by rw [w8_BusMore.j0, if_neg (by decide), e1, Option.bind_some, Option.bind_some, if_pos (show ([] : List S55).length + l.length < 4398046511104 by simp; omega), Option.bind_some, List.nil_append, if_neg (show ¬ (l.length : Int) = 0 by omega), et, if_pos (show (0 : Int) ≤ (i : Int) by omega), if_pos t1, Int.toNat_natCast]); by_cases c0 : Int.tmod how 3 = 0
  · (refine step _ (dom_put l i (⟨(rd_T55 l (i : Int)).f0, (rd_T55 l (i : Int)).f1, mx 1 (wrap64 ((rd_T55 l (i : Int)).f2 - wrap64 many)), (rd_T55 l (i : Int)).f3⟩ : S55) hil rfl rfl ?_ (Int.le_refl _)) fun k => ?_); rotate_left
    · rw [base k, if_pos c0]
    (show mx 1 (wrap64 ((rd_T55 l (i : Int)).f2 - wrap64 many)) ≤ _); rw [mx_max, w64s many (by omega) (by omega), w64s _ (by omega) (by omega)]; omega
  by_cases c1 : Int.tmod how 3 = 1; rotate_left
  · (refine step _ (dom_snoc l (⟨a, b, c, d⟩ : S55)) fun k => ?_); rw [base k, if_neg c0, if_neg c1, if_pos (by omega)]
  (refine step _ (dom_put l i (⟨(rd_T55 l (i : Int)).f0, (rd_T55 l (i : Int)).f1, (rd_T55 l (i : Int)).f2, mn 100000 (wrap64 ((rd_T55 l (i : Int)).f3 + wrap64 many))⟩ : S55) hil rfl rfl (Int.le_refl _) ?_) fun k => ?_); rotate_left
  · (rw [base k, if_neg c0, if_pos c1, if_pos (show (0 : Int) ≤ (i : Int) by omega), if_pos t1])
  (show _ ≤ mn 100000 (wrap64 ((rd_T55 l (i : Int)).f3 + wrap64 many))); rw [w64s many (by omega) (by omega), w64s _ (by omega) (by omega)]; (unfold mn; split <;> omega)
theorem BusMore (l : List S55) (no how many a b c d : Int) (hh0 : 0 ≤ how) (hh1 : how ≤ 65535) (hm0 : 0 ≤ many) (hm1 : many ≤ 65535) : ∃ k, w8_BusMore.f k l no how many a b c d = some true := by
  have dead : ∀ k, w8_BusMore.j0 (k + 1) l no how many true a b c d = some true := fun k => by rw [w8_BusMore.j0, if_pos rfl]; rfl
  by_cases c1 : (l.length : Int) < 1
  · exact ⟨1, by unfold w8_BusMore.f; rw [if_pos c1, dead]⟩
  by_cases c2 : (l.length : Int) ≥ 8
  · exact ⟨1, by unfold w8_BusMore.f; rw [if_neg c1, if_pos c2, dead]⟩
  obtain ⟨K, hM⟩ := Messages_eq l
  cases hl : sentB l
  · refine ⟨K + 1, ?_⟩
    have hM : r8_Messages.f (K + 1) l = _ := hM _ (by omega)
    unfold w8_BusMore.f
    rw [if_neg c1, if_neg c2, hM, hl, Option.bind_some]
    exact dead K
  · obtain ⟨K2, h2⟩ := more_j0 l no how many a b c d hl (by omega) hh0 hh1 hm0 hm1
    refine ⟨max K K2, ?_⟩
    have hM : r8_Messages.f (max K K2) l = _ := hM _ (by omega)
    unfold w8_BusMore.f
    rw [if_neg c1, if_neg c2, hM, hl, Option.bind_some]
    exact h2 _ (by omega)
end Go.Proofs.YtbanemecfobonaaDoor.Pure
