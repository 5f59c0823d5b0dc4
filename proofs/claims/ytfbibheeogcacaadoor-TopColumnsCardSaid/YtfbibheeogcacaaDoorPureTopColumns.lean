/- TopColumns, plainly: what the walk computes is true. -/
import Derived.Test.YtfbibheeogcacaaDoorBLawTopColumns
import Derived.Test.YtfbibheeogcacaaDoorXP2
namespace Go.Proofs.YtfbibheeogcacaaDoor.Pure
open Go.RowKit Go.Proofs.YtfbibheeogcacaaDoor.B Go.Proofs.YtfbibheeogcacaaDoorW.PrintWords Go.Proofs.YtfbibheeogcacaaDoorW.PrintLast Go.Proofs.YtfbibheeogcacaaDoorW.PrintMore
set_option linter.unusedVariables false
set_option linter.unusedSimpArgs false
set_option linter.unusedSectionVars false
theorem hidL_nil (cols : List Int) (n : Nat) : ∀ m t : Nat, (hidL cols n m t).length = 0 ↔ ∀ s : Nat, t ≤ s → s < t + m → zB cols s = false ∧ idxB (hB cols s) n 0 < 0
  | 0, t => ⟨fun _ s h1 h2 => by omega, fun _ => rfl⟩
  | m + 1, t => by
    have ih := hidL_nil cols n m (t + 1)
    simp only [hidL]
    by_cases c1 : zB cols t = true
    · rw [if_pos c1]
      refine ⟨fun h => by simp at h, fun h => ?_⟩
      have := (h t (Nat.le_refl _) (by omega)).1
      rw [c1] at this; cases this
    rw [if_neg c1]
    have c1' : zB cols t = false := by simpa using c1
    by_cases c2 : 0 ≤ idxB (hB cols t) n 0
    · rw [if_pos c2]
      refine ⟨fun h => by simp at h, fun h => ?_⟩
      have := (h t (Nat.le_refl _) (by omega)).2
      omega
    rw [if_neg c2, ih]
    refine ⟨fun h s h1 h2 => ?_, fun h s h1 h2 => h s (by omega) (by omega)⟩
    by_cases e : s = t
    · subst e; exact ⟨c1', by omega⟩
    · exact h s (by omega) (by omega)
theorem idx_neg (c : Nat → Bool) (n : Nat) : idxB c n 0 < 0 ↔ ∀ s, s < n → c s = false := by
  rcases idxB_spec c n 0 with ⟨h1, h2⟩ | ⟨t, h1, h2, h3, h4⟩
  · rw [h1]; exact ⟨fun _ s hs => h2 s (by omega) (by omega), fun _ => by omega⟩
  · rw [h1]
    refine ⟨fun h => by omega, fun h => ?_⟩
    have := h t (by omega)
    rw [h4] at this; cases this
section
variable (n : Nat) (l : List (List Int)) (M : Nat → Nat) (hM : ∀ t, t < n → M t < 4096) (cs : List Int) (hcs : ∀ t : Nat, t < n → rd cs (t : Int) = (M t : Int))
include hM hcs
theorem zB_iff (t : Nat) (ht : t < n) : zB cs t = true ↔ M t = 0 := by
  have := hM t ht
  unfold zB hidA
  rw [hcs t ht, show (0 : Int) = ((0 : Nat) : Int) from rfl, andNot_u _ _ (by omega) (by omega), Bool.not_false, Bool.true_and, beq_iff_eq, Int.natCast_inj, sub_iff _ _ (by omega) (by omega), Nat.zero_and]
  omega
theorem hB_iff (t s : Nat) (ht : t < n) (hs : s < n) : hB cs t s = true ↔ t ≠ s ∧ M s &&& M t = M t := by
  have h1 := hM t ht
  have h2 := hM s hs
  unfold hB hidA
  rw [hcs t ht, hcs s hs, show (0 : Int) = ((0 : Nat) : Int) from rfl, or_u 0 _ (by omega) (by omega), Nat.zero_or, andNot_u _ _ (by omega) (by omega), Bool.and_eq_true, beq_iff_eq, Int.natCast_inj.trans (sub_iff _ _ (by omega) (by omega))]
  simp only [Bool.not_eq_true', decide_eq_false_iff_not, Int.natCast_inj, ne_eq]
theorem cov_iff (p q : Nat) (hp : p < n) (hq : q < n) : covB (rd cs (p : Int)) (rd cs (q : Int)) = true ↔ (M p &&& M q = M q ∨ M q &&& M p = M p) := by
  have h1 := hM p hp
  have h2 := hM q hq
  unfold covB
  rw [hcs p hp, hcs q hq, and_i _ _ (by omega) (by omega), and_i _ _ (by omega) (by omega), Bool.or_eq_true, beq_iff_eq, beq_iff_eq, Int.natCast_inj, Int.natCast_inj]
theorem hid_iff : (hidL cs n n 0).length = 0 ↔ ∀ t, t < n → M t ≠ 0 ∧ ∀ s, s < n → t ≠ s → M s &&& M t ≠ M t := by
  rw [hidL_nil]
  constructor
  · intro h t ht
    obtain ⟨h1, h2⟩ := h t (by omega) (by omega)
    refine ⟨fun e => ?_, fun s hs hne e => ?_⟩
    · have := (zB_iff n M hM cs hcs t ht).mpr e
      rw [h1] at this; cases this
    · have h3 := (idx_neg _ _).mp h2 s hs
      have := (hB_iff n M hM cs hcs t s ht hs).mpr ⟨hne, e⟩
      rw [h3] at this; cases this
  · intro h s _ hs
    obtain ⟨h1, h2⟩ := h s (by omega)
    refine ⟨?_, (idx_neg _ _).mpr fun q hq => ?_⟩
    · cases hz : zB cs s
      · rfl
      · exact absurd ((zB_iff n M hM cs hcs s (by omega)).mp hz) h1
    · cases hz : hB cs s q
      · rfl
      · obtain ⟨g1, g2⟩ := (hB_iff n M hM cs hcs s q (by omega) hq).mp hz
        exact absurd g2 (h2 q hq g1)
theorem pre_iff (x : Int) : ∀ m, m ≤ n → ((preL cs m).contains x = true ↔ ∃ p : Nat, p < m ∧ (M p : Int) = x)
  | 0, _ => ⟨fun h => by simp [preL] at h, fun ⟨p, h, _⟩ => by omega⟩
  | m + 1, hm => by
    have ih := pre_iff x m (by omega)
    simp only [preL, List.contains_cons, Bool.or_eq_true, beq_iff_eq]
    rw [ih, hcs m (by omega)]
    constructor
    · rintro (h | ⟨p, h1, h2⟩)
      · exact ⟨m, by omega, h.symm⟩
      · exact ⟨p, by omega, h2⟩
    · rintro ⟨p, h1, h2⟩
      by_cases c : p = m
      · subst c; exact .inl h2.symm
      · exact .inr ⟨p, by omega, h2⟩
theorem sg_iff (L : Int) (hsig : ∀ t, t < n → sigV L (M t : Int) = true) : ∀ m, m ≤ n → (sgB L cs m = true ↔ ∀ p q : Nat, p < q → q < m → M p ≠ M q)
  | 0, _ => ⟨fun _ p q _ h => by omega, fun _ => rfl⟩
  | m + 1, hm => by
    have ih := sg_iff L hsig m (by omega)
    have e : sgB L cs (m + 1) = (sgB L cs m && (sigV L (rd cs (m : Int)) && !(preL cs m).contains (rd cs (m : Int)))) := rfl
    rw [e, hcs m (by omega), hsig m (by omega), Bool.true_and, Bool.and_eq_true, ih, Bool.not_eq_true', Bool.eq_false_iff, ne_eq, pre_iff n M hM cs hcs _ m (by omega)]
    constructor
    · rintro ⟨h1, h2⟩ p q hpq hq
      by_cases c : q = m
      · subst c
        intro e
        exact h2 ⟨p, hpq, by rw [e]⟩
      · exact h1 p q hpq (by omega)
    · intro h
      refine ⟨fun p q hpq hq => h p q hpq (by omega), ?_⟩
      rintro ⟨p, h1, h2⟩
      exact h p m h1 (by omega) (by omega)
theorem rng_ok : ∀ m, m ≤ n → rngB cs m = true
  | 0, _ => rfl
  | m + 1, hm => by
    have ih := rng_ok m (by omega)
    have e : rngB cs (m + 1) = (rngB cs m && (decide (-9223372036854775808 ≤ rd cs (m : Int)) && decide (rd cs (m : Int) ≤ 9223372036854775807))) := rfl
    have := hM m (by omega)
    rw [e, ih, hcs m (by omega), decide_eq_true (by omega), decide_eq_true (by omega)]; rfl
end
theorem found_true : neonwrighttop_found.f = some true := by decide +kernel
/-- Is one of the first m columns empty? -/
def empB (cs : List Int) : Nat → Bool
  | 0 => false
  | m + 1 => if empB cs m = true then true else (rd cs (m : Int) == 0)
theorem empB_iff (n : Nat) (M : Nat → Nat) (cs : List Int) (hcs : ∀ t : Nat, t < n → rd cs (t : Int) = (M t : Int)) : ∀ m, m ≤ n → (empB cs m = true ↔ ∃ t, t < m ∧ M t = 0)
  | 0, _ => ⟨fun h => by simp [empB] at h, fun ⟨t, h, _⟩ => by omega⟩
  | m + 1, hm => by
    have ih := empB_iff n M cs hcs m (by omega)
    simp only [empB]
    by_cases c : empB cs m = true
    · rw [if_pos c]
      obtain ⟨t, h1, h2⟩ := ih.mp c
      exact ⟨fun _ => ⟨t, by omega, h2⟩, fun _ => rfl⟩
    · rw [if_neg c, hcs m (by omega), beq_iff_eq]
      constructor
      · intro h; exact ⟨m, by omega, by omega⟩
      · rintro ⟨t, h1, h2⟩
        by_cases e : t = m
        · subst e; omega
        · exact absurd (ih.mpr ⟨t, by omega, h2⟩) c
theorem law_l1 (h : List Int) (cs : List Int) (hlen : cs.length ≤ 1000) (u : List Int) (f : Int) (b : Bool)
    (hb : (if f = 0 then (if (u.length : Int) = 0 then (((h.length : Int) == 0) == (!(empB cs cs.length))) else (((h.length : Int) == 0) == false)) else (if f = 2 then (((h.length : Int) == 0) == false) else false)) = true) :
    ∀ m i : Nat, cs.length - i = m → i ≤ cs.length → EvS (fun k => neonwrighttop_TopColumns.l1 k h cs u f (empB cs i) (i : Int)) (some true)
  | 0, i, hm, hi => by
    obtain rfl : i = cs.length := by omega
    refine EvS.now fun k => ?_
    rw [neonwrighttop_TopColumns.l1, if_neg (by omega)]
    simp only [found_true, Option.bind_some]
    by_cases c1 : f = 0
    · rw [if_pos c1] at hb ⊢
      by_cases c2 : (u.length : Int) = 0
      · rw [if_pos c2] at hb ⊢
        rw [if_pos hb]
      · rw [if_neg c2] at hb ⊢
        rw [if_pos hb]
    · rw [if_neg c1] at hb ⊢
      by_cases c2 : f = 2
      · rw [if_pos c2] at hb ⊢
        rw [if_pos hb]
      · rw [if_neg c2] at hb; cases hb
  | m + 1, i, hm, hi => by
    have ih := law_l1 h cs hlen u f b hb m (i + 1) (by omega) (by omega)
    refine ih.succ fun k => ?_
    rw [neonwrighttop_TopColumns.l1, if_pos (by omega), nNx i (by omega)]
    by_cases c : empB cs i = true
    · rw [if_pos c]; simp only [empB]; rw [if_pos c]
    · rw [if_neg c, if_pos (by omega)]; simp only [empB]; rw [if_neg c]
theorem law_l0 (n : Int) (l : List (List Int)) (hl : l.length ≤ 12) (R : Option Bool) (hR : R = some true)
    (H : EvS (fun k => neonwrighttop_TopColumns.l0 k n l (l.length : Int)) (some true)) : ∀ m i : Nat, l.length - i = m → i ≤ l.length → EvS (fun k => neonwrighttop_TopColumns.l0 k n l (i : Int)) (some true)
  | 0, i, hm, hi => by
    obtain rfl : i = l.length := by omega
    exact H
  | m + 1, i, hm, hi => by
    by_cases c : ((rd_L1 l (i : Int)).length : Int) > 80
    · exact EvS.now fun k => by rw [neonwrighttop_TopColumns.l0, if_pos (by omega), if_pos (by omega), if_pos c, found_true]; rfl
    · have ih := law_l0 n l hl R hR H m (i + 1) (by omega) (by omega)
      refine ih.succ fun k => ?_
      rw [neonwrighttop_TopColumns.l0, if_pos (by omega), if_pos (by omega), if_neg c, nNx i (by omega)]
theorem main (n : Int) (l : List (List Int)) (h1 : 1 ≤ l.length) (hl : l.length ≤ 12) (hrow : ∀ i : Nat, i < l.length → (rd_L1 l (i : Int)).length ≤ 9223372036854775807) : EvS (fun k => neonwrighttop_TopColumns.l0 k n l (l.length : Int)) (some true) := by
  by_cases he : ofE n l = 0
  · obtain ⟨a1, a2, a3, a4⟩ := ofE_zero he
    obtain ⟨N, rfl⟩ : ∃ N : Nat, n = (N : Int) := Int.eq_ofNat_of_zero_le (by omega)
    have hH : find_Hidden.f (N : Int) l 1 = some (hidL (colsD N l) N N 0, 0) := by unfold find_Hidden.f; rw [if_pos rfl, if_pos he, Int.toNat_natCast]
    have hg : ∀ i : Nat, i < l.length → (rd_L1 l (i : Int)).length ≤ 9223372036854775807 ∧ ∀ j : Nat, j < (rd_L1 l (i : Int)).length → 0 ≤ rd (rd_L1 l (i : Int)) (j : Int) ∧ rd (rd_L1 l (i : Int)) (j : Int) < (N : Int) := fun i hi => ⟨hrow i hi, risB_at _ _ _ (a4 i hi)⟩
    obtain ⟨K1, e1⟩ := lcols_ev N l (by omega) hg (by omega)
    have hM : ∀ t, t < N → mTo l t l.length < 4096 := fun t _ => Nat.lt_of_lt_of_le (mTo_lt l t l.length) (Nat.le_trans (Nat.pow_le_pow_right (by decide) hl) (by decide))
    have hD : ∀ t : Nat, t < N → rd (colsD N l) (t : Int) = (mTo l t l.length : Int) := fun t ht => colsD_rd N l (by omega) a4 t ht
    have hL : ∀ t : Nat, t < N → rd (colsL N l) (t : Int) = (mTo l t l.length : Int) := fun t ht => colsL_rd N l (by omega) a4 t ht
    have hlen := colsL_len N l
    have hrng : rngB (colsL N l) (colsL N l).length = true := by rw [hlen]; exact rng_ok N _ hM (colsL N l) hL N (Nat.le_refl _)
    obtain ⟨u, ⟨K2, e2⟩, e3, e4⟩ := un_ev (colsL N l) (by omega) (l.length : Int) hrng
    have hid := hid_iff N _ hM (colsD N l) hD
    have hsig : ∀ t, t < N → sigV (l.length : Int) (mTo l t l.length : Int) = true := fun t ht => by
      unfold sigV
      rw [shl_i l.length (by omega), decide_eq_true (show (0 : Int) ≤ (mTo l t l.length : Int) by omega), decide_eq_true (show (mTo l t l.length : Int) < ((2 ^ l.length : Nat) : Int) by have := mTo_lt l t l.length; omega)]
      rfl
    have hsg := sg_iff N _ hM (colsL N l) hL (l.length : Int) hsig N (Nat.le_refl _)
    have hE : sgE (l.length : Int) (colsL N l) = if sgB (l.length : Int) (colsL N l) N = true then 0 else 2 := by
      unfold sgE
      rw [if_neg (by omega), if_neg (by omega), hlen]
    have hemp := empB_iff N _ (colsL N l) hL N (Nat.le_refl _)
    have hcov := fun p q => cov_iff N _ hM (colsL N l) hL p q
    have hfin : (if u.2 = 0 then (if (u.1.length : Int) = 0 then ((((hidL (colsD N l) N N 0).length : Int) == 0) == (!(empB (colsL N l) (colsL N l).length))) else ((((hidL (colsD N l) N N 0).length : Int) == 0) == false)) else (if u.2 = 2 then ((((hidL (colsD N l) N N 0).length : Int) == 0) == false) else false)) = true := by
      have hz : (((hidL (colsD N l) N N 0).length : Int) == 0) = decide ((hidL (colsD N l) N N 0).length = 0) := by
        rw [Bool.eq_iff_iff, beq_iff_eq, decide_eq_true_eq]; omega
      rw [hz, hlen, e3, hE]
      by_cases c : sgB (l.length : Int) (colsL N l) N = true
      · rw [if_pos c, if_pos rfl]
        have hd := hsg.mp c
        have e5 := e4 (by rw [hE, if_pos c])
        rw [hlen] at e5
        by_cases c2 : (u.1.length : Int) = 0
        · rw [if_pos c2]
          have hno := e5.mp (by omega)
          cases hem : empB (colsL N l) N
          · have : (hidL (colsD N l) N N 0).length = 0 := hid.mpr fun t ht => ⟨(fun e => by
              have := hemp.mpr ⟨t, ht, e⟩
              rw [hem] at this; cases this), fun s hs hne e => by
              rcases Nat.lt_or_gt_of_ne hne with g | g
              · have h2 := hno t s g hs
                have := (hcov t s ht hs).mpr (.inr e)
                rw [h2] at this; cases this
              · have h2 := hno s t g ht
                have := (hcov s t hs ht).mpr (.inl e)
                rw [h2] at this; cases this⟩
            rw [decide_eq_true this]; rfl
          · obtain ⟨t, ht, e⟩ := hemp.mp hem
            have : ¬ (hidL (colsD N l) N N 0).length = 0 := fun h => (hid.mp h t ht).1 e
            rw [decide_eq_false this]; rfl
        · rw [if_neg c2]
          have : ¬ (hidL (colsD N l) N N 0).length = 0 := fun h => c2 (by
            have := e5.mpr fun p q hpq hq => by
              cases hc : covB (rd (colsL N l) (p : Int)) (rd (colsL N l) (q : Int))
              · rfl
              · rcases (hcov p q (by omega) hq).mp hc with g | g
                · exact absurd g ((hid.mp h q hq).2 p (by omega) (by omega))
                · exact absurd g ((hid.mp h p (by omega)).2 q hq (by omega))
            omega)
          rw [decide_eq_false this]; rfl
      · rw [if_neg c, if_neg (by decide), if_pos rfl]
        have : ¬ (hidL (colsD N l) N N 0).length = 0 := fun h => c (hsg.mpr fun p q hpq hq e => by
          have := (hid.mp h p (by omega)).2 q hq (by omega)
          rw [← e, Nat.and_self] at this
          exact this rfl)
        rw [decide_eq_false this]; rfl
    obtain ⟨K3, e6⟩ := law_l1 (hidL (colsD N l) N N 0) (colsL N l) (by omega) u.1 u.2 false hfin (colsL N l).length 0 rfl (by omega)
    refine ⟨max K1 (max K2 K3) + 1, fun k hk => ?_⟩
    obtain ⟨k', rfl⟩ : ∃ k', k = k' + 1 := ⟨k - 1, by omega⟩
    have e1 : neonwrighttop_columns.f k' (N : Int) l = _ := e1 k' (by omega)
    have e2 : code_Unordered.f k' (l.length : Int) (colsL N l) = _ := e2 k' (by omega)
    have e6 : neonwrighttop_TopColumns.l1 k' _ _ _ _ _ _ = _ := e6 k' (by omega)
    show neonwrighttop_TopColumns.l0 (k' + 1) (N : Int) l (l.length : Int) = _
    rw [neonwrighttop_TopColumns.l0, if_neg (by omega), hH, Option.bind_some, if_pos rfl, e1, Option.bind_some, e2, Option.bind_some]
    exact e6
  · have hH : find_Hidden.f n l 1 = some ([], ofE n l) := by unfold find_Hidden.f; rw [if_pos rfl, if_neg he]
    exact EvS.now fun k => by rw [neonwrighttop_TopColumns.l0, if_neg (by omega), hH, Option.bind_some, if_neg he, if_pos (show ((([] : List Int), ofE n l).1.length : Int) = 0 from rfl), found_true]; rfl
theorem TopColumns (n : Int) (l : List (List Int)) (hrow : ∀ i : Nat, i < l.length → (rd_L1 l (i : Int)).length ≤ 9223372036854775807) : ∃ k, neonwrighttop_TopColumns.f k n l = some true := by
  have dead : ∀ k, neonwrighttop_TopColumns.j0 (k + 1) n l true = some true := fun k => by rw [neonwrighttop_TopColumns.j0, if_pos rfl, found_true]; rfl
  by_cases c1 : (l.length : Int) < 1
  · exact ⟨1, by unfold neonwrighttop_TopColumns.f; rw [if_pos c1, dead]⟩
  by_cases c2 : (l.length : Int) > 12
  · exact ⟨1, by unfold neonwrighttop_TopColumns.f; rw [if_neg c1, decide_eq_true c2, dead]⟩
  obtain ⟨K, h⟩ := law_l0 n l (by omega) _ rfl (main n l (by omega) (by omega) hrow) l.length 0 (by omega) (by omega)
  refine ⟨K + 1, ?_⟩
  unfold neonwrighttop_TopColumns.f
  rw [if_neg c1, decide_eq_false c2, neonwrighttop_TopColumns.j0, if_neg (by decide)]
  exact h K (Nat.le_refl _)
end Go.Proofs.YtfbibheeogcacaaDoor.Pure
