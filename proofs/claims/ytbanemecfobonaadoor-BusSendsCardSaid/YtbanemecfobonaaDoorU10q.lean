/- Written by a program (lite.py) from my texts. -/
import Derived.Test.YtbanemecfobonaaDoorX5q
import Derived.Test.YtbanemecfobonaaDoorBM0q
namespace Go.Proofs.YtbanemecfobonaaDoor.B
open Go.RowKit Go.Proofs.YtbanemecfobonaaDoorW.PrintWords Go.Proofs.YtbanemecfobonaaDoorW.PrintLast Go.Proofs.YtbanemecfobonaaDoorW.PrintMore
set_option linter.unusedVariables false
set_option linter.unusedSimpArgs false
def EvS {α : Type} (f : Nat → Option α) (r : Option α) : Prop := ∃ K, ∀ k, K ≤ k → f k = r
theorem EvS.succ {α : Type} {f g : Nat → Option α} {r : Option α} (h : EvS g r) (K0 : Nat) (hs : ∀ k, K0 ≤ k → f (k + 1) = g k) : EvS f r := by
  obtain ⟨K, hK⟩ := h
  refine ⟨max K K0 + 1, fun k hk => ?_⟩
  obtain ⟨k', rfl⟩ : ∃ k', k = k' + 1 := ⟨k - 1, by omega⟩
  rw [hs k' (by omega)]
  exact hK k' (by omega)
theorem EvS.now {α : Type} {f : Nat → Option α} {r : Option α} (K0 : Nat) (hs : ∀ k, K0 ≤ k → f (k + 1) = r) : EvS f r :=
  ⟨K0 + 1, fun k hk => by
    obtain ⟨k', rfl⟩ : ∃ k', k = k' + 1 := ⟨k - 1, by omega⟩
    exact hs k' (by omega)⟩
theorem EvS.same {α : Type} {f g : Nat → Option α} {r : Option α} (h : EvS g r) (hs : ∀ k, f k = g k) : EvS f r := by
  obtain ⟨K, hK⟩ := h
  exact ⟨K, fun k hk => (hs k).trans (hK k hk)⟩
theorem EvS.bind {α β : Type} {f : Nat → Option α} {a : α} {g : Nat → α → Option β} {r : Option β} (h : EvS f (some a)) (h2 : EvS (fun k => g k a) r) : EvS (fun k => (f k).bind (g k)) r := by
  obtain ⟨K, hK⟩ := h
  obtain ⟨K2, hK2⟩ := h2
  refine ⟨max K K2, fun k hk => ?_⟩
  show (f k).bind (g k) = r
  rw [hK k (by omega), Option.bind_some]
  exact hK2 k (by omega)
theorem w64s (x : Int) (h1 : -9223372036854775808 ≤ x) (h2 : x ≤ 9223372036854775807) : wrap64 x = x := by simp only [wrap64]; omega
theorem nNx (i : Nat) (h : i ≤ 1000000000) : wrap64 ((i : Int) + 1) = ((i + 1 : Nat) : Int) := by rw [w64s _ (by omega) (by omega)]; omega
theorem nosM_has (l : List S55) (x : Int) : ∀ n, (nosM l n).contains x = true ↔ ∃ t, t < n ∧ (rd_T55 l (t : Int)).f0 = x
  | 0 => by simp [nosM]
  | n + 1 => by
    have e : nosM l (n + 1) = (rd_T55 l (n : Int)).f0 :: nosM l n := rfl
    rw [e, List.contains_cons, Bool.or_eq_true, nosM_has l x n]
    constructor
    · rintro (h | ⟨t, h1, h2⟩)
      · exact ⟨n, by omega, (by simpa using h : x = _).symm⟩
      · exact ⟨t, by omega, h2⟩
    · rintro ⟨t, h1, h2⟩
      by_cases ht : t = n
      · subst ht
        exact .inl (by simpa using h2.symm)
      · exact .inr ⟨t, by omega, h2⟩
theorem okM_iff (x : S55) : okM x = true ↔ 0 ≤ x.f0 ∧ x.f0 ≤ 2047 ∧ 0 ≤ x.f1 ∧ x.f1 ≤ 8 ∧ 1 ≤ x.f2 ∧ x.f2 ≤ 100000 ∧ 0 ≤ x.f3 ∧ x.f3 ≤ 100000 := by
  simp only [okM, Bool.and_eq_true, decide_eq_true_eq, and_assoc]
theorem msg_l1 (l : List S55) (i : Nat) (hi : i ≤ l.length) (hl : l.length ≤ 1000) (a b c d : Int) (r : Option Bool) (h : EvS (fun k => neonwrightref08_Messages.l0 k l ((i + 1 : Nat) : Int)) r) : ∀ m j, i - j = m → j ≤ i → (∀ t, j ≤ t → t < i → (rd_T55 l (t : Int)).f0 ≠ a) → EvS (fun k => neonwrightref08_Messages.l1 k l (i : Int) (j : Int) a b c d) r
  | 0, j, hm, hj, hno => by
    obtain rfl : j = i := by omega
    refine h.succ 0 fun k _ => ?_
    rw [neonwrightref08_Messages.l1, if_neg (by omega), nNx j (by omega)]
  | m + 1, j, hm, hj, hno => by
    refine (msg_l1 l i hi hl a b c d r h m (j + 1) (by omega) (by omega) (fun t h1 h2 => hno t (by omega) h2)).succ 0 fun k _ => ?_
    rw [neonwrightref08_Messages.l1, if_pos (by omega), if_pos (by omega), if_pos (by omega), if_neg (hno j (Nat.le_refl _) (by omega)), nNx j (by omega)]
theorem msg_l1_bad (l : List S55) (i : Nat) (hi : i ≤ l.length) (hl : l.length ≤ 1000) (a b c d : Int) : ∀ m j, i - j = m → (∃ t, j ≤ t ∧ t < i ∧ (rd_T55 l (t : Int)).f0 = a) → EvS (fun k => neonwrightref08_Messages.l1 k l (i : Int) (j : Int) a b c d) (some false)
  | 0, j, hm, ⟨t, h1, h2, h3⟩ => by omega
  | m + 1, j, hm, ⟨t, h1, h2, h3⟩ => by
    by_cases hj : (rd_T55 l (j : Int)).f0 = a
    · refine EvS.now 0 fun k _ => ?_
      rw [neonwrightref08_Messages.l1, if_pos (by omega), if_pos (by omega), if_pos (by omega), if_pos hj]
    · have hne : t ≠ j := fun e => hj (by rw [← e]; exact h3)
      refine (msg_l1_bad l i hi hl a b c d m (j + 1) (by omega) ⟨t, by omega, h2, h3⟩).succ 0 fun k _ => ?_
      rw [neonwrightref08_Messages.l1, if_pos (by omega), if_pos (by omega), if_pos (by omega), if_neg hj, nNx j (by omega)]
theorem msg_l0_eq (l : List S55) (i : Nat) (hi : i < l.length) (k : Nat) : neonwrightref08_Messages.l0 (k + 1) l (i : Int) = neonwrightref08_Messages.j1 k l (i : Int) (!okM (rd_T55 l (i : Int))) (rd_T55 l (i : Int)).f0 (rd_T55 l (i : Int)).f1 (rd_T55 l (i : Int)).f2 (rd_T55 l (i : Int)).f3 := by
  rw [neonwrightref08_Messages.l0, if_pos (by omega), if_pos (by omega)]
  generalize rd_T55 l (i : Int) = x
  cases ho : okM x
  · have hn : ¬ (0 ≤ x.f0 ∧ x.f0 ≤ 2047 ∧ 0 ≤ x.f1 ∧ x.f1 ≤ 8 ∧ 1 ≤ x.f2 ∧ x.f2 ≤ 100000 ∧ 0 ≤ x.f3 ∧ x.f3 ≤ 100000) := fun h => by
      rw [(okM_iff x).2 h] at ho; cases ho
    by_cases c1 : x.f0 < 0
    · rw [if_pos c1]; rfl
    rw [if_neg c1]
    by_cases c2 : x.f0 > 2047
    · rw [if_pos c2]; rfl
    rw [if_neg c2]
    by_cases c3 : x.f1 < 0
    · rw [if_pos c3]; rfl
    rw [if_neg c3]
    by_cases c4 : x.f1 > 8
    · rw [if_pos c4]; rfl
    rw [if_neg c4]
    by_cases c5 : x.f2 < 1
    · rw [if_pos c5]; rfl
    rw [if_neg c5]
    by_cases c6 : x.f2 > 100000
    · rw [if_pos c6]; rfl
    rw [if_neg c6]
    by_cases c7 : x.f3 < 0
    · rw [if_pos c7]; rfl
    rw [if_neg c7, decide_eq_true (by omega : x.f3 > 100000)]; rfl
  · obtain ⟨h0, h1, h2, h3, h4, h5, h6, h7⟩ := (okM_iff x).1 ho
    rw [if_neg (by omega), if_neg (by omega), if_neg (by omega), if_neg (by omega), if_neg (by omega), if_neg (by omega), if_neg (by omega), decide_eq_false (by omega : ¬ x.f3 > 100000)]; rfl
theorem msg_l0 (l : List S55) (hl : l.length ≤ 1000) : ∀ m i, l.length - i = m → i ≤ l.length → sentTo l i = true → EvS (fun k => neonwrightref08_Messages.l0 k l (i : Int)) (some (sentTo l l.length))
  | 0, i, hm, hi, hs => by
    obtain rfl : i = l.length := by omega
    refine EvS.now 0 fun k _ => ?_
    rw [neonwrightref08_Messages.l0, if_neg (by omega), hs]
  | m + 1, i, hm, hi, hs => by
    have hs1 : sentTo l (i + 1) = (sentTo l i && (okM (rd_T55 l (i : Int)) && !(nosM l i).contains (rd_T55 l (i : Int)).f0)) := rfl
    cases ho : okM (rd_T55 l (i : Int))
    · have hb : sentTo l (i + 1) = false := by rw [hs1, ho]; simp
      refine EvS.succ (g := fun k => neonwrightref08_Messages.j1 k l (i : Int) true (rd_T55 l (i : Int)).f0 (rd_T55 l (i : Int)).f1 (rd_T55 l (i : Int)).f2 (rd_T55 l (i : Int)).f3) (EvS.now 0 fun k _ => ?_) 0 fun k _ => ?_
      · rw [neonwrightref08_Messages.j1, if_pos rfl, sentTo_mono l _ hb l.length (by omega)]
      · rw [msg_l0_eq l i (by omega), ho]; rfl
    · cases hc : (nosM l i).contains (rd_T55 l (i : Int)).f0
      · have hg : sentTo l (i + 1) = true := by rw [hs1, hs, ho, hc]; rfl
        have ih := msg_l0 l hl m (i + 1) (by omega) (by omega) hg
        have hno : ∀ t, 0 ≤ t → t < i → (rd_T55 l (t : Int)).f0 ≠ (rd_T55 l (i : Int)).f0 := fun t _ ht e => by
          rw [(nosM_has l _ i).2 ⟨t, ht, e⟩] at hc; cases hc
        have h1 := msg_l1 l i (by omega) hl (rd_T55 l (i : Int)).f0 (rd_T55 l (i : Int)).f1 (rd_T55 l (i : Int)).f2 (rd_T55 l (i : Int)).f3 _ ih i 0 (by omega) (by omega) hno
        refine EvS.succ (g := fun k => neonwrightref08_Messages.j1 k l (i : Int) false (rd_T55 l (i : Int)).f0 (rd_T55 l (i : Int)).f1 (rd_T55 l (i : Int)).f2 (rd_T55 l (i : Int)).f3) (h1.succ 0 fun k _ => ?_) 0 fun k _ => ?_
        · rw [neonwrightref08_Messages.j1, if_neg (by simp)]; rfl
        · rw [msg_l0_eq l i (by omega), ho]; rfl
      · have hb : sentTo l (i + 1) = false := by rw [hs1, hc]; simp
        obtain ⟨t, h1, h2⟩ := (nosM_has l _ i).1 hc
        have h3 := msg_l1_bad l i (by omega) hl (rd_T55 l (i : Int)).f0 (rd_T55 l (i : Int)).f1 (rd_T55 l (i : Int)).f2 (rd_T55 l (i : Int)).f3 i 0 (by omega) ⟨t, by omega, h1, h2⟩
        rw [sentTo_mono l _ hb l.length (by omega)]
        refine EvS.succ (g := fun k => neonwrightref08_Messages.j1 k l (i : Int) false (rd_T55 l (i : Int)).f0 (rd_T55 l (i : Int)).f1 (rd_T55 l (i : Int)).f2 (rd_T55 l (i : Int)).f3) (h3.succ 0 fun k _ => ?_) 0 fun k _ => ?_
        · rw [neonwrightref08_Messages.j1, if_neg (by simp)]; rfl
        · rw [msg_l0_eq l i (by omega), ho]; rfl
theorem Messages_eq (l : List S55) : EvS (fun k => neonwrightref08_Messages.f k l) (some (sentB l)) := by
  by_cases h8 : l.length ≤ 8
  · have e : sentB l = sentTo l l.length := by unfold sentB; rw [decide_eq_true h8, Bool.and_true]
    rw [e]
    refine (msg_l0 l (by omega) l.length 0 (by omega) (by omega) rfl).same fun k => ?_
    show neonwrightref08_Messages.f k l = _
    unfold neonwrightref08_Messages.f
    rw [if_neg (by omega)]; rfl
  · have e : sentB l = false := by unfold sentB; rw [decide_eq_false h8, Bool.and_false]
    rw [e]
    exact ⟨0, fun k _ => by show neonwrightref08_Messages.f k l = _; unfold neonwrightref08_Messages.f; rw [if_pos (by omega)]⟩
theorem sentB_ok (l : List S55) (h : sentB l = true) : l.length ≤ 8 ∧ ∀ i, i < l.length → okM (rd_T55 l (i : Int)) = true := by
  simp only [sentB, Bool.and_eq_true, decide_eq_true_eq] at h
  refine ⟨h.2, fun i hi => ?_⟩
  cases ho : okM (rd_T55 l (i : Int))
  · have hb : sentTo l (i + 1) = false := by
      have hs1 : sentTo l (i + 1) = (sentTo l i && (okM (rd_T55 l (i : Int)) && !(nosM l i).contains (rd_T55 l (i : Int)).f0)) := rfl
      rw [hs1, ho]; simp
    rw [sentTo_mono l _ hb l.length (by omega)] at h
    cases h.1
  · rfl
end Go.Proofs.YtbanemecfobonaaDoor.B
