/- BusArbitrates, plainly: what the walk computes is true. -/
import Derived.Test.YtbanemecfobonaaDoorBLawBusArbitrates
import Derived.Test.YtbanemecfobonaaDoorU3
namespace Go.Proofs.YtbanemecfobonaaDoor.Pure
set_option linter.unusedVariables false
open Go.RowKit Go.Proofs.YtbanemecfobonaaDoor.B Go.Proofs.YtbanemecfobonaaDoorW.PrintWords Go.Proofs.YtbanemecfobonaaDoorW.PrintLast

theorem next1 (i : Nat) (h : i ≤ 1000000000) : wrap64 ((i : Int) + 1) = ((i + 1 : Nat) : Int) := by rw [w64 _ (by omega) (by omega)]; omega
theorem bits_le (l : List S24) (hv : l.any nvB = false) (i : Nat) (hi : i < l.length) : (bitsAt l i).length ≤ 1000 := by
  obtain ⟨_, _, hb⟩ := valid_no l hv i hi
  obtain ⟨_, _, h3, _⟩ := vB_parts _ _ hb
  have key : ∀ (p : List Int) (bit many : Int), (stuffed p bit many).length ≤ 2 * p.length := by
    intro p
    induction p using List.rec with
    | nil => intro _ _; simp [stuffed]
    | cons b p ih =>
      intro bit many
      rw [stuffed]
      split
      · have := ih (put1 (put1 bit many b).1 (put1 bit many b).2 (wrap64 (1 - b))).1 (put1 (put1 bit many b).1 (put1 bit many b).2 (wrap64 (1 - b))).2
        simp; omega
      · have := ih (put1 bit many b).1 (put1 bit many b).2
        simp; omega
  have h1 := key (plainS (noAt l i).toNat (l.getD i z24).f1) 0 0
  have h2 := plainS_length (noAt l i).toNat (l.getD i z24).f1
  simp only [bitsAt, bitsS, List.length_append, tailD_length]
  omega
theorem bits_ans (l : List S24) (hv : l.any nvB = false) (i : Nat) (hi : i < l.length) : bus_Bits.f ((rd_T24 l (i : Int)).f0) ((rd_T24 l (i : Int)).f1) = some (bitsAt l i, 0) := by
  obtain ⟨_, _, hb⟩ := valid_no l hv i hi
  have := bus_Bits_eq (noAt l i) (l.getD i z24).f1
  rw [bitsAns, if_pos hb] at this
  exact this

section
variable (l : List S24) (hn20 : l.length ≤ 20) (hv : l.any nvB = false) (w : Nat) (d : Nat → Nat) (ha : Arb l.length (bitsAt l) w d)
include hn20 hv ha
theorem arb_l2 (n i : Nat) (hi : i < l.length) (hw : i ≠ w) (r : Option Bool) (h1 : Ev (fun k => neonwrightlaw08_BusArbitrates.l1 k l (w : Int) (n : Int) 0 (mostD w d (i + 1) : Int) (bitsAt l w) ((i + 1 : Nat) : Int)) r) :
    ∀ m j, d i - j = m → j ≤ d i → Ev (fun k => neonwrightlaw08_BusArbitrates.l2 k l (w : Int) (n : Int) 0 (mostD w d i : Int) (bitsAt l w) (i : Int) (bitsAt l i) (j : Int)) r
  | 0, j, hm, hj => by
    obtain rfl : j = d i := by omega
    have hlI := ha.lenI i hi hw
    have hlW := ha.lenW i hi hw
    have hle := bits_le l hv i hi
    refine Ev.succ h1 0 fun k _ => ?_
    have e1 : ¬ rd (bitsAt l w) ((d i : Nat) : Int) = rd (bitsAt l i) ((d i : Nat) : Int) := by
      rw [ha.one i hi hw, ha.zero i hi hw]; decide
    have e2 : mx (mostD w d i : Int) (((d i) + 1 : Nat) : Int) = (mostD w d (i + 1) : Int) := by
      rw [mostD, if_neg hw]
      unfold mx
      split <;> omega
    rw [neonwrightlaw08_BusArbitrates.l2, if_neg (by omega), if_pos (by omega), if_pos (by omega), if_pos (by omega), if_neg e1, next1 (d i) (by omega), e2, next1 i (by omega)]
  | m + 1, j, hm, hj => by
    have hlI := ha.lenI i hi hw
    have hlW := ha.lenW i hi hw
    have hle := bits_le l hv i hi
    refine Ev.succ (arb_l2 n i hi hw r h1 m (j + 1) (by omega) (by omega)) 0 fun k _ => ?_
    have e1 : rd (bitsAt l w) ((j : Nat) : Int) = rd (bitsAt l i) ((j : Nat) : Int) := (ha.like i hi hw j (by omega)).symm
    rw [neonwrightlaw08_BusArbitrates.l2, if_neg (by omega), if_pos (by omega), if_pos (by omega), if_pos (by omega), if_pos e1, next1 j (by omega)]
theorem arb_l1 (hmin : ∀ i, i < l.length → noAt l w ≤ noAt l i) (hne : ∀ i, i < l.length → i ≠ w → noAt l i ≠ noAt l w) :
    ∀ m i, l.length - i = m → i ≤ l.length → Ev (fun k => neonwrightlaw08_BusArbitrates.l1 k l (w : Int) (mostD w d l.length : Int) 0 (mostD w d i : Int) (bitsAt l w) (i : Int)) (some true)
  | 0, i, hm, hi => by
    obtain rfl : i = l.length := by omega
    refine Ev.now 0 fun k _ => ?_
    rw [neonwrightlaw08_BusArbitrates.l1, if_neg (by omega), if_pos rfl]
    rfl
  | m + 1, i, hm, hi => by
    have hw := ha.lt
    have ih := arb_l1 hmin hne m (i + 1) (by omega) (by omega)
    have h1 := hmin i (by omega)
    have e1 : ¬ (rd_T24 l (i : Int)).f0 < (rd_T24 l (w : Int)).f0 := by
      show ¬ noAt l i < noAt l w
      omega
    -- what l1 comes to
    have hgo : Ev (fun k => neonwrightlaw08_BusArbitrates.l2 k l (w : Int) (mostD w d l.length : Int) 0 (mostD w d i : Int) (bitsAt l w) (i : Int) (bitsAt l i) 0) (some true) := by
      by_cases hiw : i = w
      · have em : mostD w d (i + 1) = mostD w d i := by rw [mostD, if_pos hiw]
        rw [em] at ih
        refine Ev.succ ih 0 fun k _ => ?_
        rw [neonwrightlaw08_BusArbitrates.l2, if_pos (by omega), next1 i (by omega)]
      · exact arb_l2 l hn20 hv w d ha (mostD w d l.length) i (by omega) hiw _ ih (d i) 0 (by omega) (by omega)
    have h4 : Ev (fun k => neonwrightlaw08_BusArbitrates.j4 k l (w : Int) (mostD w d l.length : Int) 0 (mostD w d i : Int) (bitsAt l w) (i : Int) (bitsAt l i) false) (some true) := by
      refine Ev.succ hgo 0 fun k _ => ?_
      rw [neonwrightlaw08_BusArbitrates.j4, if_neg (by simp)]
    have h3 : Ev (fun k => neonwrightlaw08_BusArbitrates.j3 k l (w : Int) (mostD w d l.length : Int) 0 (mostD w d i : Int) (bitsAt l w) (i : Int) false) (some true) := by
      refine Ev.succ h4 0 fun k _ => ?_
      rw [neonwrightlaw08_BusArbitrates.j3, if_neg (by simp), if_pos (by omega), if_pos (by omega), bits_ans l hv i (by omega), Option.bind_some, if_pos rfl]
      rfl
    refine Ev.succ h3 0 fun k _ => ?_
    rw [neonwrightlaw08_BusArbitrates.l1, if_pos (by omega), if_pos (by omega), if_pos (by omega), if_pos (by omega), if_neg e1]
    by_cases hiw : i = w
    · rw [if_pos (by omega)]
    · have e2 : ((rd_T24 l (i : Int)).f0 == (rd_T24 l (w : Int)).f0) = false := by
        have := hne i (by omega) hiw
        show (noAt l i == noAt l w) = false
        simpa using this
      rw [if_neg (by omega), e2]
end
theorem arb_end (l : List S24) : ∃ r, bus_Wins.f l = some r ∧ (r.2.2 = 0 ∧ r.1 ≥ 0 ∧ r.1 < l.length ∧ Ev (fun k => neonwrightlaw08_BusArbitrates.j1 k l r.1 r.2.1 false) (some true) ∨ r = (0, 0, 2)) := by
  by_cases h0 : l.length = 0
  · exact ⟨(0, 0, 2), by unfold bus_Wins.f; rw [if_pos h0], .inr rfl⟩
  by_cases h1 : 20 < l.length
  · exact ⟨(0, 0, 2), by unfold bus_Wins.f; rw [if_neg h0, if_pos h1], .inr rfl⟩
  by_cases hv : l.any nvB = true
  · exact ⟨(0, 0, 2), by unfold bus_Wins.f; rw [if_neg h0, if_neg h1, if_pos hv], .inr rfl⟩
  by_cases hd : dupOf l l.length = true
  · exact ⟨(0, 0, 2), by unfold bus_Wins.f; rw [if_neg h0, if_neg h1, if_neg hv, if_pos hd], .inr rfl⟩
  have hv' : l.any nvB = false := by simpa using hv
  have hd' : dupOf l l.length = false := by simpa using hd
  obtain ⟨d, ha⟩ := arb_of l (by omega) hv' hd'
  have hw := ha.lt
  refine ⟨_, bus_Wins_eq l h0 (by omega) hv' hd' d ha, .inl ⟨rfl, by show (0 : Int) ≤ _; omega, by show ((bestOf l l.length : Nat) : Int) < _; omega, ?_⟩⟩
  have h1 := arb_l1 l (by omega) hv' _ d ha (fun i hi => bestOf_min l l.length i hi) (fun i hi hne e => by
    rcases Nat.lt_or_ge i (bestOf l l.length) with h | h
    · exact noDup l l.length hd' i _ h hw e
    · exact noDup l l.length hd' _ i (by omega) hi e.symm) l.length 0 (by omega) (by omega)
  refine Ev.succ h1 0 fun k _ => ?_
  show neonwrightlaw08_BusArbitrates.j1 (k + 1) l ((bestOf l l.length : Nat) : Int) ((mostD (bestOf l l.length) d l.length : Nat) : Int) false = _
  rw [neonwrightlaw08_BusArbitrates.j1, if_neg (by simp), if_pos (by omega), if_pos (by omega), bits_ans l hv' _ hw, Option.bind_some]
  rfl
theorem arb_l0_end (l : List S24) (hdl : ∀ i, (l.getD i z24).f1.length ≤ 40) (hn : l.length ≤ 40) : ∀ m j, l.length - j = m → j ≤ l.length → Ev (fun k => neonwrightlaw08_BusArbitrates.l0 k l (j : Int)) (some true)
  | 0, j, hm, hj => by
    obtain rfl : j = l.length := by omega
    obtain ⟨r, h1, h2⟩ := arb_end l
    rcases h2 with ⟨h2, h3, h4, h5⟩ | rfl
    · refine Ev.succ h5 0 fun k _ => ?_
      rw [neonwrightlaw08_BusArbitrates.l0, if_neg (by omega), h1, Option.bind_some, if_pos h2, if_neg (by omega), decide_eq_false (by omega)]
    · refine Ev.now 0 fun k _ => ?_
      rw [neonwrightlaw08_BusArbitrates.l0, if_neg (by omega), h1, Option.bind_some, if_neg (by simp), if_pos rfl, if_pos (by unfold wrap64; simp)]
      rfl
  | m + 1, j, hm, hj => by
    refine Ev.succ (arb_l0_end l hdl hn m (j + 1) (by omega) (by omega)) 0 fun k _ => ?_
    have h := hdl j
    have e : ¬ ((((rd_T24 l (j : Int)).f1).length : Int) > 40) := by
      show ¬ (((l.getD j z24).f1.length : Int) > 40)
      omega
    rw [neonwrightlaw08_BusArbitrates.l0, if_pos (by omega), if_neg (by omega), if_pos (by omega), if_neg e, next1 j (by omega)]
theorem arb_l0_big (l : List S24) (b : Nat) (hb : b < l.length) (hb40 : b ≤ 40) (hbad : b = 40 ∨ 40 < (l.getD b z24).f1.length) (hok : ∀ i, i < b → (l.getD i z24).f1.length ≤ 40) : ∀ m j, b - j = m → j ≤ b → Ev (fun k => neonwrightlaw08_BusArbitrates.l0 k l (j : Int)) (some true)
  | 0, j, hm, hj => by
    obtain rfl : j = b := by omega
    refine Ev.now 0 fun k _ => ?_
    rw [neonwrightlaw08_BusArbitrates.l0, if_pos (by omega)]
    by_cases h : (j : Int) ≥ 40
    · rw [if_pos h]; rfl
    · have e : (((rd_T24 l (j : Int)).f1).length : Int) > 40 := by
        show (((l.getD j z24).f1.length : Int) > 40)
        omega
      rw [if_neg h, if_pos (by omega), if_pos e]; rfl
  | m + 1, j, hm, hj => by
    refine Ev.succ (arb_l0_big l b hb hb40 hbad hok m (j + 1) (by omega) (by omega)) 0 fun k _ => ?_
    have h := hok j (by omega)
    have e : ¬ ((((rd_T24 l (j : Int)).f1).length : Int) > 40) := by
      show ¬ (((l.getD j z24).f1.length : Int) > 40)
      omega
    rw [neonwrightlaw08_BusArbitrates.l0, if_pos (by omega), if_neg (by omega), if_pos (by omega), if_neg e, next1 j (by omega)]
/-- The first index at which a list is too great, if any. -/
theorem first_big (l : List S24) : (∀ i, (l.getD i z24).f1.length ≤ 40) ∧ l.length ≤ 40 ∨ ∃ b, b < l.length ∧ b ≤ 40 ∧ (b = 40 ∨ 40 < (l.getD b z24).f1.length) ∧ ∀ i, i < b → (l.getD i z24).f1.length ≤ 40 := by
  have key : ∀ n, n ≤ 40 → n ≤ l.length → (∀ i, i < n → (l.getD i z24).f1.length ≤ 40) ∨ ∃ b, b < n ∧ 40 < (l.getD b z24).f1.length ∧ ∀ i, i < b → (l.getD i z24).f1.length ≤ 40 := by
    intro n
    induction n with
    | zero => intro _ _; exact .inl fun i h => by omega
    | succ n ih =>
      intro h40 hn
      rcases ih (by omega) (by omega) with h | ⟨b, h1, h2, h3⟩
      · by_cases hb : 40 < (l.getD n z24).f1.length
        · exact .inr ⟨n, by omega, hb, h⟩
        · refine .inl fun i hi => ?_
          rcases Nat.lt_or_ge i n with h4 | h4
          · exact h i h4
          · obtain rfl : i = n := by omega
            omega
      · exact .inr ⟨b, by omega, h2, h3⟩
  by_cases hn : l.length ≤ 40
  · rcases key l.length hn (Nat.le_refl _) with h | ⟨b, h1, h2, h3⟩
    · refine .inl ⟨fun i => ?_, hn⟩
      rcases Nat.lt_or_ge i l.length with h4 | h4
      · exact h i h4
      · rw [List.getD_eq_getElem?_getD, List.getElem?_eq_none h4]
        exact Nat.zero_le _
    · exact .inr ⟨b, h1, by omega, .inr h2, h3⟩
  · rcases key 40 (Nat.le_refl _) (by omega) with h | ⟨b, h1, h2, h3⟩
    · exact .inr ⟨40, by omega, Nat.le_refl _, .inl rfl, h⟩
    · exact .inr ⟨b, by omega, by omega, .inr h2, h3⟩
theorem BusArbitrates (l : List S24) : ∃ k, neonwrightlaw08_BusArbitrates.f k l = some true := by
  rcases first_big l with ⟨h1, h2⟩ | ⟨b, h1, h2, h3, h4⟩
  · obtain ⟨K, hK⟩ := arb_l0_end l h1 h2 l.length 0 (by omega) (by omega)
    exact ⟨K, hK K (Nat.le_refl _)⟩
  · obtain ⟨K, hK⟩ := arb_l0_big l b h1 h2 h3 h4 b 0 (by omega) (by omega)
    exact ⟨K, hK K (Nat.le_refl _)⟩
end Go.Proofs.YtbanemecfobonaaDoor.Pure
