/- BusBits, plainly: what the walk computes is true. -/
import Derived.Test.YtbanemecfobonaaDoorBLawBusBits
import Derived.Test.YtbanemecfobonaaDoorU2
namespace Go.Proofs.YtbanemecfobonaaDoor.Pure
set_option linter.unusedVariables false
open Go.RowKit Go.Proofs.YtbanemecfobonaaDoor.B Go.Proofs.YtbanemecfobonaaDoorW.PrintWords Go.Proofs.YtbanemecfobonaaDoorW.PrintLast

theorem stuffed_le : ∀ (p : List Int) (bit many : Int), (stuffed p bit many).length ≤ 2 * p.length
  | [], _, _ => by simp [stuffed]
  | b :: p, bit, many => by
    rw [stuffed]
    split
    · have := stuffed_le p (put1 (put1 bit many b).1 (put1 bit many b).2 (wrap64 (1 - b))).1 (put1 (put1 bit many b).1 (put1 bit many b).2 (wrap64 (1 - b))).2
      simp; omega
    · have := stuffed_le p (put1 bit many b).1 (put1 bit many b).2
      simp; omega
theorem bitsAns_le (a : Int) (l : List Int) : (bitsAns a l).1.length ≤ 300 := by
  unfold bitsAns
  split
  · rename_i h
    obtain ⟨_, _, h3, _⟩ := vB_parts a l h
    have h1 := stuffed_le (plainS a.toNat l) 0 0
    have h2 := plainS_length a.toNat l
    simp only [bitsS, List.length_append, tailD_length]
    omega
  · simp
/-- Writing over all bits ends. -/
theorem l1_go (x3 : List Int) (x4 x5 a : Int) (l : List Int) (R : Option Bool) (j : Nat) (hj : ∀ k, j ≤ k → neonwrightlaw08_BusBits.l0 k x3 x4 (wrap64 (x5 + 1)) a l = R) : ∀ (n i k : Nat) (x6 : List Int), x6.length ≤ 300 → x6.length - i = n → i ≤ x6.length → j + n + 1 ≤ k → neonwrightlaw08_BusBits.l1 k x3 x4 x5 x6 (i : Int) a l = R
  | 0, i, k, x6, hx, hn, hi, hk => by
    obtain ⟨k, rfl⟩ : ∃ m, k = m + 1 := ⟨k - 1, by omega⟩
    rw [neonwrightlaw08_BusBits.l1, if_neg (by omega), hj k (by omega)]
  | n + 1, i, k, x6, hx, hn, hi, hk => by
    obtain ⟨k, rfl⟩ : ∃ m, k = m + 1 := ⟨k - 1, by omega⟩
    have e3 : wrap64 ((i : Int) + 1) = ((i + 1 : Nat) : Int) := by rw [w64 _ (by omega) (by omega)]; omega
    rw [neonwrightlaw08_BusBits.l1, if_pos (by omega), if_pos (by omega), e3]
    exact l1_go x3 x4 x5 a l R j hj n (i + 1) k _ (by simp; omega) (by simp; omega) (by simp; omega) (by omega)
theorem l0_step (a : Int) (l : List Int) (x5 : Int) (h5 : x5 < 2) (R : Option Bool) (j : Nat) (hj : ∀ k, j ≤ k → neonwrightlaw08_BusBits.l0 k (bitsAns a l).1 (bitsAns a l).2 (wrap64 (x5 + 1)) a l = R) (hj2 : 400 ≤ j) :
    ∀ k, j + 400 ≤ k → neonwrightlaw08_BusBits.l0 k (bitsAns a l).1 (bitsAns a l).2 x5 a l = R := by
  intro k hk
  obtain ⟨k, rfl⟩ : ∃ m, k = m + 2 := ⟨k - 2, by omega⟩
  have hle := bitsAns_le a l
  rw [neonwrightlaw08_BusBits.l0, if_pos h5, bus_Bits_eq, Option.bind_some, same_eq _ _ (by omega) (k + 1) (by omega), Option.bind_some, if_pos (by simp)]
  have e2 : ((bitsAns a l).2 != (bitsAns a l).2) = false := by simp
  rw [e2, neonwrightlaw08_BusBits.j1, if_neg (by simp)]
  exact l1_go _ _ _ _ _ R j hj (bitsAns a l).1.length 0 k _ hle (by omega) (by omega) (by omega)
theorem BusBits (a : Int) (l : List Int) (hl : l.length ≤ maxLen) : ∃ k, neonwrightlaw08_BusBits.f k a l = some true := by
  refine ⟨2000, ?_⟩
  unfold neonwrightlaw08_BusBits.f
  by_cases h : l.length ≤ 40
  · rw [if_neg (by omega), ref_Bits_eq a l (by omega) 2000 (by omega) (by omega), Option.bind_some]
    have h2 : ∀ k, 400 ≤ k → neonwrightlaw08_BusBits.l0 k (bitsAns a l).1 (bitsAns a l).2 (wrap64 (1 + 1)) a l = some true := by
      intro k hk
      obtain ⟨k, rfl⟩ : ∃ m, k = m + 1 := ⟨k - 1, by omega⟩
      rw [neonwrightlaw08_BusBits.l0, if_neg (by unfold wrap64; omega)]
      rfl
    have h1 := l0_step a l 1 (by decide) _ 400 h2 (by omega)
    have e1 : wrap64 (0 + 1) = 1 := by unfold wrap64; omega
    have h0 := l0_step a l 0 (by decide) (some true) 800 (fun k hk => by rw [e1]; exact h1 k hk) (by omega)
    exact h0 2000 (by omega)
  · rw [if_pos (by omega)]
    rfl
end Go.Proofs.YtbanemecfobonaaDoor.Pure
