/- Written by a program (lite.py) from my texts. -/
import Derived.Test.YtbanemecfobonaaDoorBLawBusSendsq
import Derived.Test.YtbanemecfobonaaDoorU12q
namespace Go.Proofs.YtbanemecfobonaaDoor.Pure
open Go.RowKit Go.Proofs.YtbanemecfobonaaDoor.B Go.Proofs.YtbanemecfobonaaDoorW.PrintWords Go.Proofs.YtbanemecfobonaaDoorW.PrintLast
set_option linter.unusedVariables false
set_option linter.unusedSimpArgs false
theorem few_l0 (l : List S55) (la : List (List Int)) : ∀ m j, la.length - j = m → (∃ b, EvS (fun k => neonwrightlaw08_few.l0 k l la (j : Int)) (some b) ∧ (b = true → (∀ i, j ≤ i → i < la.length → (rd_L1 la (i : Int)).length ≤ 1000) ∧ (j < la.length → la.length ≤ 20)))
  | 0, j, hm => ⟨decide ((l.length : Int) ≤ 20), EvS.now 0 fun k _ => by
      rw [neonwrightlaw08_few.l0, if_neg (by omega)], fun _ => ⟨fun i h1 h2 => by omega, fun h => by omega⟩⟩
  | m + 1, j, hm => by
    by_cases hj : (j : Int) ≥ 20
    · refine ⟨false, EvS.now 0 fun k _ => ?_, fun h => by cases h⟩
      rw [neonwrightlaw08_few.l0, if_pos (by omega), if_pos hj]
    by_cases hb : (((rd_L1 la (j : Int)).length : Int) > 1000)
    · refine ⟨false, EvS.now 0 fun k _ => ?_, fun h => by cases h⟩
      rw [neonwrightlaw08_few.l0, if_pos (by omega), if_neg hj, if_pos (by omega), if_pos hb]
    obtain ⟨b, h1, h2⟩ := few_l0 l la m (j + 1) (by omega)
    refine ⟨b, h1.succ 0 fun k _ => ?_, fun h => ⟨fun i h3 h4 => ?_, fun h3 => ?_⟩⟩
    · rw [neonwrightlaw08_few.l0, if_pos (by omega), if_neg hj, if_pos (by omega), if_neg hb, nNx j (by omega)]
    · by_cases hi : i = j
      · subst hi; omega
      · exact (h2 h).1 i (by omega) h4
    · by_cases h5 : j + 1 < la.length
      · exact (h2 h).2 h5
      · omega
theorem sends_l0 (x y : List S74) (hx : x = y) (hl : x.length ≤ 20000) : ∀ m j, x.length - j = m → EvS (fun k => neonwrightlaw08_BusSends.l0 k x y (j : Int)) (some true)
  | 0, j, hm => by
    refine EvS.now 0 fun k _ => ?_
    rw [neonwrightlaw08_BusSends.l0, if_neg (by omega)]; rfl
  | m + 1, j, hm => by
    refine (sends_l0 x y hx hl m (j + 1) (by omega)).succ 0 fun k _ => ?_
    subst hx
    rw [neonwrightlaw08_BusSends.l0, if_pos (by omega), if_pos (by omega), if_pos (by omega), if_neg (by simp), nNx j (by omega)]
theorem BusSends (l : List S55) (la : List (List Int)) (T : Int) : ∃ k, neonwrightlaw08_BusSends.f k l la T = some true := by
  obtain ⟨b, hf, hb⟩ := few_l0 l la la.length 0 (by omega)
  have hf2 : EvS (fun k => neonwrightlaw08_few.f k l la) (some b) := hf.same fun k => rfl
  cases b
  · obtain ⟨K, hK⟩ : EvS (fun k => neonwrightlaw08_BusSends.f k l la T) (some true) := hf2.bind ⟨0, fun k _ => (if_neg (by simp)).trans rfl⟩
    exact ⟨K, hK K (Nat.le_refl _)⟩
  · obtain ⟨r, h1, h2, h3⟩ := Send_alike l la T (fun i hi => (hb rfl).1 i (by omega) hi)
    have hj : EvS (fun k => neonwrightlaw08_BusSends.j0 k r.1 r.1 ((r.1.length : Int) != (r.1.length : Int))) (some true) := by
      refine (sends_l0 r.1 r.1 rfl h3 r.1.length 0 (by omega)).succ 0 fun k _ => ?_
      rw [neonwrightlaw08_BusSends.j0, if_neg (by simp)]; rfl
    obtain ⟨K1, hK1⟩ := hf2
    obtain ⟨K2, hK2⟩ := h1
    obtain ⟨K3, hK3⟩ := h2
    obtain ⟨K4, hK4⟩ := hj
    refine ⟨max (max K1 K2) (max K3 K4), ?_⟩
    generalize hk : max (max K1 K2) (max K3 K4) = k
    have e1 := hK1 k (by omega)
    have e2 := hK2 k (by omega)
    have e3 := hK3 k (by omega)
    have e4 := hK4 k (by omega)
    dsimp only at e1 e2 e3 e4
    rw [neonwrightlaw08_BusSends.f, e1, Option.bind_some, if_pos rfl, e2, Option.bind_some, e3, Option.bind_some, if_pos rfl]
    exact e4
end Go.Proofs.YtbanemecfobonaaDoor.Pure
