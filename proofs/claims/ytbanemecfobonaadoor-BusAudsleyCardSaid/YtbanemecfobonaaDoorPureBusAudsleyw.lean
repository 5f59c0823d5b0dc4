/- Written by a program (lite.py) from my texts. -/
import Derived.Test.YtbanemecfobonaaDoorBLawBusAudsleyw
import Derived.Test.YtbanemecfobonaaDoorU35w
namespace Go.Proofs.YtbanemecfobonaaDoor.Pure
open Go.RowKit Go.Proofs.YtbanemecfobonaaDoor.B Go.Proofs.YtbanemecfobonaaDoorW.PrintWords Go.Proofs.YtbanemecfobonaaDoorW.PrintLast Go.Proofs.YtbanemecfobonaaDoorW.PrintMore
set_option linter.unusedVariables false
set_option linter.unusedSimpArgs false
theorem rd_putA (x : List Int) (b : Nat) (v : Int) (hb : b < x.length) (i : Nat) : rd (x.set b v) (i : Int) = if i = b then v else rd x (i : Int) := by
  show (x.set b v).getD i 0 = if i = b then v else x.getD i 0
  rw [List.getD_eq_getElem?_getD, List.getElem?_set]
  by_cases h : i = b
  · subst h; rw [if_pos rfl, if_pos rfl, if_pos hb]; rfl
  · rw [if_neg (fun e => h e.symm), if_neg h, List.getD_eq_getElem?_getD]
theorem limTo_at (lims : List Int) : ∀ n, limTo lims n = true ↔ ∀ i : Nat, i < n → 0 ≤ rd lims (i : Int) ∧ rd lims (i : Int) ≤ 10000000
  | 0 => ⟨fun _ i hi => by omega, fun _ => rfl⟩
  | n + 1 => by
    have ih := limTo_at lims n
    have e : limTo lims (n + 1) = (limTo lims n && (decide (0 ≤ rd lims (n : Int)) && decide (rd lims (n : Int) ≤ 10000000))) := rfl
    rw [e, Bool.and_eq_true, Bool.and_eq_true, ih, decide_eq_true_eq, decide_eq_true_eq]
    constructor
    · rintro ⟨h1, h2⟩ i hi
      by_cases e : i = n
      · subst e; exact h2
      · exact h1 i (by omega)
    · intro h
      exact ⟨fun i hi => h i (by omega), h n (by omega)⟩
theorem canB_wider {l : List S55} {lims lims' : List Int} (hw : ∀ i : Nat, i < l.length → rd lims (i : Int) ≤ rd lims' (i : Int)) {Q : Nat → Bool} {b : Int} {i : Nat} (hi : i < l.length) (h : canB l lims Q b i = true) : canB l lims' Q b i = true := by
  unfold canB at h ⊢
  simp only [Bool.and_eq_true, decide_eq_true_eq] at h ⊢
  exact ⟨h.1, Int.le_trans h.2 (hw i hi)⟩
theorem good_wider (l : List S55) (lims lims' : List Int) (hw : ∀ i : Nat, i < l.length → rd lims (i : Int) ≤ rd lims' (i : Int)) : ∀ (rl : List Nat) (Q : Nat → Bool) (b : Int), GoodOrd l lims rl Q b → GoodOrd l lims' rl Q b
  | [], Q, b, h => h
  | i :: rest, Q, b, ⟨h1, h2, h3⟩ => ⟨h1, canB_wider hw h1 h2, good_wider l lims lims' hw rest _ _ h3⟩
theorem BusAudsley (l : List S55) (lims order : List Int) (more : Int) (hm0 : 0 ≤ more) (hm1 : more ≤ 65535) : ∃ k, w8_BusAudsley.f k l lims order more = some true := by
  (have dead : ∀ k, w8_BusAudsley.j0 (k + 1) l lims order more true = some true := fun k => by rw [w8_BusAudsley.j0, if_pos rfl]; rfl); by_cases c1 : (l.length : Int) > 8
  · (exact ⟨1, by unfold w8_BusAudsley.f; rw [if_pos c1, dead]⟩)
  by_cases c2 : (lims.length : Int) > 20
  · (exact ⟨1, by unfold w8_BusAudsley.f; rw [if_neg c1, if_pos c2, dead]⟩)
  by_cases c3 : (order.length : Int) > 20
  · (exact ⟨1, by unfold w8_BusAudsley.f; rw [if_neg c1, if_neg c2, decide_eq_true c3, dead]⟩)
  (have go : ∀ k, w8_BusAudsley.f k l lims order more = w8_BusAudsley.j0 k l lims order more false := fun k => by unfold w8_BusAudsley.f; rw [if_neg c1, if_neg c2, decide_eq_false c3]); (have hO : ∀ lims', bus_Order.f l lims' = some (orderSpec l lims') := fun _ => rfl); by_cases ce : sentB l = false ∨ lims.length ≠ l.length ∨ limTo lims lims.length = false
  · (refine ⟨1, ?_⟩); (have e : orderSpec l lims = ([], 2) := by unfold orderSpec; rw [if_pos ce]); rw [go, w8_BusAudsley.j0, if_neg (by decide), hO, e, Option.bind_some, if_pos rfl]; rfl
  (have e : orderSpec l lims = orderS l lims l.length (fun _ => true) 0 [] := by unfold orderSpec; rw [if_neg ce])
  have hs : sentB l = true := by
    cases h : sentB l
    · exact absurd (.inl h) ce
    · rfl
  have hlim : lims.length = l.length := by
    rcases Nat.decEq lims.length l.length with h | h
    · exact absurd (.inr (.inl h)) ce
    · exact h
  have hlt : limTo lims lims.length = true := by
    cases h : limTo lims lims.length
    · exact absurd (.inr (.inr h)) ce
    · rfl
  (have hl : OkL l := (sentB_oks l hs).2); (have h8 := (sentB_oks l hs).1); (obtain ⟨any, ⟨K1, a1⟩, a2⟩ := holds_val l lims order hs hlim); (rcases orderS_none l lims l.length (fun _ => true) 0 [] with h0 | h0); rotate_left
  · have hany : any = false := by
      cases h : any
      · rfl
      · obtain ⟨rl, r1, r2, r3⟩ := a2.mp h
        have := orderS_finds l lims hl l.length rl (fun _ => true) 0 [] r1 (Int.le_refl 0) r3
        rw [h0] at this
        exact absurd (show (10 : Int) = 0 from this) (by decide)
    (refine ⟨K1 + 1, ?_⟩); (have a1 : w8_holds.f K1 l lims order = some any := a1 _ (by omega)); rw [go, w8_BusAudsley.j0, if_neg (by decide), hO, e, h0, Option.bind_some, if_neg (by decide), a1, Option.bind_some, if_neg (by decide), if_pos rfl, hany, if_neg (by decide)]; rfl
  (obtain ⟨rl, r1, r2, r3⟩ := orderS_good l lims l.length (fun _ => true) 0 [] (cntQ_all _) h0); rw [List.append_nil] at r2; (obtain ⟨b, ⟨K2, b1⟩, b2⟩ := holds_val l lims (orderS l lims l.length (fun _ => true) 0 []).1 hs hlim); (have hb : b = true := b2.mpr ⟨rl, r1, r2, r3⟩); subst hb; (refine ⟨max K1 K2 + 1, ?_⟩); (have a1 : w8_holds.f (max K1 K2) l lims order = some any := a1 _ (by omega)); (have b1 : w8_holds.f (max K1 K2) l lims (orderS l lims l.length (fun _ => true) 0 []).1 = some true := b1 _ (by omega)); rw [go, w8_BusAudsley.j0, if_neg (by decide), hO, e, Option.bind_some, if_neg (by rw [h0]; decide), a1, Option.bind_some, if_pos h0, b1, Option.bind_some, if_pos rfl]; by_cases cz : (lims.length : Int) = 0
  · rw [if_pos cz]; rfl
  rw [if_neg cz]
  have et : Int.tmod (wrap64 more) (lims.length : Int) = more % (lims.length : Int) := by
    rw [w64s more (by omega) (by omega), Int.tmod_eq_emod_of_nonneg hm0]
  (have t0 := Int.emod_nonneg more cz); (have t1 := Int.emod_lt_of_pos more (show 0 < (lims.length : Int) by omega)); (obtain ⟨i, hi⟩ : ∃ i : Nat, more % (lims.length : Int) = (i : Int) := Int.eq_ofNat_of_zero_le t0); rw [hi] at et t1; (have hil : i < lims.length := by omega); (obtain ⟨l0, l1⟩ := (limTo_at lims lims.length).mp hlt i hil)
  have ew : mn 10000000 (wrap64 (rd lims (i : Int) + wrap64 more)) = min 10000000 (rd lims (i : Int) + more) := by
    rw [w64s more (by omega) (by omega), w64s _ (by omega) (by omega)]
    unfold mn; split <;> omega
  (obtain ⟨lims', hlims'⟩ : ∃ x, x = lims.set i (min 10000000 (rd lims (i : Int) + more)) := ⟨_, rfl⟩); (have hlen' : lims'.length = lims.length := by rw [hlims', List.length_set]); (have hrd : ∀ t : Nat, rd lims' (t : Int) = if t = i then min 10000000 (rd lims (i : Int) + more) else rd lims (t : Int) := fun t => by rw [hlims']; exact rd_putA lims i _ hil t)
  have hlt' : limTo lims' lims'.length = true := (limTo_at lims' lims'.length).mpr fun t ht => by
    rw [hrd]
    have := (limTo_at lims lims.length).mp hlt t (by omega)
    split <;> omega
  have e' : (orderSpec l lims').2 = 0 := by
    unfold orderSpec
    rw [if_neg (by rw [hs, hlt', hlen', hlim]; simp)]
    exact orderS_finds l lims' hl l.length rl (fun _ => true) 0 [] r1 (Int.le_refl 0) (good_wider l lims lims' (fun t ht => by
      rw [hrd]
      split
      · rename_i e; subst e; omega
      · exact Int.le_refl _) rl _ _ r3)
  (have hO' : bus_Order.f l lims' = some (orderSpec l lims') := rfl); simp only [Option.bind_some, List.nil_append]; rw [if_pos (by simp; omega), et, if_pos (by omega), if_pos t1, ew, Int.toNat_natCast, ← hlims', hO', Option.bind_some, if_pos e']; rfl
end Go.Proofs.YtbanemecfobonaaDoor.Pure
