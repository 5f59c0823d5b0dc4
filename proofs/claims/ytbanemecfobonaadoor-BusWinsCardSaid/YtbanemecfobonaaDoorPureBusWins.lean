/- BusWins, plainly: what the walk computes is true. -/
import Derived.Test.YtbanemecfobonaaDoorBLawBusWins
import Derived.Test.YtbanemecfobonaaDoorU4
namespace Go.Proofs.YtbanemecfobonaaDoor.Pure
set_option linter.unusedVariables false
open Go.RowKit Go.Proofs.YtbanemecfobonaaDoor.B Go.Proofs.YtbanemecfobonaaDoorW.PrintWords Go.Proofs.YtbanemecfobonaaDoorW.PrintLast

theorem wins_l0_end (l : List S24) (hdl : ∀ i, (l.getD i z24).f1.length ≤ 40) (hn : l.length ≤ 40) : ∀ m j, l.length - j = m → j ≤ l.length → Ev (fun k => neonwrightlaw08_BusWins.l0 k l (j : Int)) (some true)
  | 0, j, hm, hj => by
    obtain rfl : j = l.length := by omega
    obtain ⟨r, h1, K, h2⟩ := Wins_alike l hdl
    refine Ev.now K fun k hk => ?_
    have h3 : neonwrightref08_Wins.f k l = some r := h2 k hk
    rw [neonwrightlaw08_BusWins.l0, if_neg (by omega), h1, Option.bind_some, h3, Option.bind_some, if_pos rfl, if_pos rfl, if_pos rfl]
    rfl
  | m + 1, j, hm, hj => by
    refine Ev.succ (wins_l0_end l hdl hn m (j + 1) (by omega) (by omega)) 0 fun k _ => ?_
    have h := hdl j
    have e : ¬ ((((rd_T24 l (j : Int)).f1).length : Int) > 40) := by
      show ¬ (((l.getD j z24).f1.length : Int) > 40)
      omega
    rw [neonwrightlaw08_BusWins.l0, if_pos (by omega), if_neg (by omega), if_pos (by omega), if_neg e, i1 j (by omega)]
theorem wins_l0_big (l : List S24) (b : Nat) (hb : b < l.length) (hb40 : b ≤ 40) (hbad : b = 40 ∨ 40 < (l.getD b z24).f1.length) (hok : ∀ i, i < b → (l.getD i z24).f1.length ≤ 40) : ∀ m j, b - j = m → j ≤ b → Ev (fun k => neonwrightlaw08_BusWins.l0 k l (j : Int)) (some true)
  | 0, j, hm, hj => by
    obtain rfl : j = b := by omega
    refine Ev.now 0 fun k _ => ?_
    rw [neonwrightlaw08_BusWins.l0, if_pos (by omega)]
    by_cases h : (j : Int) ≥ 40
    · rw [if_pos h]; rfl
    · have e : (((rd_T24 l (j : Int)).f1).length : Int) > 40 := by
        show (((l.getD j z24).f1.length : Int) > 40)
        omega
      rw [if_neg h, if_pos (by omega), if_pos e]; rfl
  | m + 1, j, hm, hj => by
    refine Ev.succ (wins_l0_big l b hb hb40 hbad hok m (j + 1) (by omega) (by omega)) 0 fun k _ => ?_
    have h := hok j (by omega)
    have e : ¬ ((((rd_T24 l (j : Int)).f1).length : Int) > 40) := by
      show ¬ (((l.getD j z24).f1.length : Int) > 40)
      omega
    rw [neonwrightlaw08_BusWins.l0, if_pos (by omega), if_neg (by omega), if_pos (by omega), if_neg e, i1 j (by omega)]
/-- The first index at which a list is too great, if any. -/
theorem first_big (l : List S24) : (∀ i, (l.getD i z24).f1.length ≤ 40) ∧ l.length ≤ 40 ∨ ∃ b, b < l.length ∧ b ≤ 40 ∧ (b = 40 ∨ 40 < (l.getD b z24).f1.length) ∧ ∀ i, i < b → (l.getD i z24).f1.length ≤ 40 := by
  have key : ∀ n, n ≤ 40 → n ≤ l.length → (∀ i, i < n → (l.getD i z24).f1.length ≤ 40) ∨ ∃ b, b < n ∧ 40 < (l.getD b z24).f1.length ∧ ∀ i, i < b → (l.getD i z24).f1.length ≤ 40 := by
    intro n
    induction n with
    | zero => intro _ _; exact .inl fun i h => by omega
    | succ n ih =>
      intro h40 hn
      rcases ih (by omega) (by omega) with h | ⟨b, h1, h2, h3⟩
      · by_cases hb : 40 < (l.getD n z24).f1.length
        · exact .inr ⟨n, by omega, hb, h⟩
        · refine .inl fun i hi => ?_
          rcases Nat.lt_or_ge i n with h4 | h4
          · exact h i h4
          · obtain rfl : i = n := by omega
            omega
      · exact .inr ⟨b, by omega, h2, h3⟩
  by_cases hn : l.length ≤ 40
  · rcases key l.length hn (Nat.le_refl _) with h | ⟨b, h1, h2, h3⟩
    · refine .inl ⟨fun i => ?_, hn⟩
      rcases Nat.lt_or_ge i l.length with h4 | h4
      · exact h i h4
      · rw [List.getD_eq_getElem?_getD, List.getElem?_eq_none h4]
        exact Nat.zero_le _
    · exact .inr ⟨b, h1, by omega, .inr h2, h3⟩
  · rcases key 40 (Nat.le_refl _) (by omega) with h | ⟨b, h1, h2, h3⟩
    · exact .inr ⟨40, by omega, Nat.le_refl _, .inl rfl, h⟩
    · exact .inr ⟨b, by omega, by omega, .inr h2, h3⟩
theorem BusWins (l : List S24) : ∃ k, neonwrightlaw08_BusWins.f k l = some true := by
  rcases first_big l with ⟨h1, h2⟩ | ⟨b, h1, h2, h3, h4⟩
  · obtain ⟨K, hK⟩ := wins_l0_end l h1 h2 l.length 0 (by omega) (by omega)
    exact ⟨K, hK K (Nat.le_refl _)⟩
  · obtain ⟨K, hK⟩ := wins_l0_big l b h1 h2 h3 h4 b 0 (by omega) (by omega)
    exact ⟨K, hK K (Nat.le_refl _)⟩
end Go.Proofs.YtbanemecfobonaaDoor.Pure
