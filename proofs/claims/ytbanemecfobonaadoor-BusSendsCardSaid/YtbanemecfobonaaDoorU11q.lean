/- Written by a program (lite.py) from my texts. -/
import Derived.Test.YtbanemecfobonaaDoorU10q
import Derived.Test.YtbanemecfobonaaDoorBLSq
import Derived.Test.YtbanemecfobonaaDoorBM3q
namespace Go.Proofs.YtbanemecfobonaaDoor.B
open Go.RowKit Go.Proofs.YtbanemecfobonaaDoorW.PrintWords Go.Proofs.YtbanemecfobonaaDoorW.PrintLast Go.Proofs.YtbanemecfobonaaDoorW.PrintMore
set_option linter.unusedVariables false
set_option linter.unusedSimpArgs false
def dueN (p : Int) (L : List Int) (j : Nat) : Int := if j < L.length then (j : Int) * p + rd L (j : Int) else (j : Int) * p
theorem due_is_at : neonwrightref08_due.f = bus_at.f := rfl
theorem mulB (j : Nat) (p : Int) (hj : j ≤ 100000) (h1 : 1 ≤ p) (h2 : p ≤ 100000) : 0 ≤ (j : Int) * p ∧ (j : Int) * p ≤ 10000000000 := by
  refine ⟨Int.mul_nonneg (by omega) (by omega), ?_⟩
  have : (j : Int) * p ≤ 100000 * 100000 := Int.mul_le_mul (by omega) h2 (by omega) (by omega)
  omega
theorem at_eq (a b p d : Int) (L : List Int) (j : Nat) (hj : j ≤ 100000) (h1 : 1 ≤ p) (h2 : p ≤ 100000) (hr : j < L.length → 0 ≤ rd L (j : Int) ∧ rd L (j : Int) ≤ 100000) : bus_at.f a b p d L (j : Int) = some (dueN p L j) := by
  obtain ⟨m1, m2⟩ := mulB j p hj h1 h2
  unfold bus_at.f dueN
  by_cases hl : j < L.length
  · obtain ⟨r1, r2⟩ := hr hl
    rw [if_pos (by omega), if_pos (by omega), if_pos hl, w64s ((j : Int) * p) (by omega) (by omega), w64s _ (by omega) (by omega)]
  · rw [if_neg (by omega), if_neg hl, w64s _ (by omega) (by omega)]
theorem at_some (a b p d : Int) (L : List Int) (j : Nat) : ∃ v, bus_at.f a b p d L (j : Int) = some v := by
  unfold bus_at.f
  by_cases hl : (j : Int) < (L.length : Int)
  · rw [if_pos hl, if_pos (by omega)]; exact ⟨_, rfl⟩
  · rw [if_neg hl]; exact ⟨_, rfl⟩
def inB (m : S55) (L : List Int) (j : Nat) : Prop := ∀ t, j ≤ t → t < L.length → 0 ≤ rd L (t : Int) ∧ rd L (t : Int) ≤ m.f3
def upB (m : S55) (L : List Int) (j : Nat) : Prop := ∀ t, j ≤ t → t < L.length → dueN m.f2 L t < dueN m.f2 L (t + 1)
def okL (m : S55) (L : List Int) : Prop := inB m L 0 ∧ upB m L 0
section
variable (l : List S55) (la : List (List Int)) (T : Int)
abbrev SRes := List S74 × Int
def errA : Option SRes := some ([], 2)
theorem send_l1 (i : Nat) (hi : i < la.length) (m : S55) (L : List Int) (hL : L = rd_L1 la (i : Int)) (hl : L.length ≤ 1000) (n : Int) (r : Option SRes)
    (h : EvS (fun k => bus_Send.l2 k l la T (i : Int) l n (i : Int) (L.length : Int) 0 m.f0 m.f1 m.f2 m.f3) r) : ∀ q j, L.length - j = q → j ≤ L.length → inB m L j →
    EvS (fun k => bus_Send.l1 k l la T (i : Int) l n (i : Int) L (L.length : Int) (j : Int) m.f0 m.f1 m.f2 m.f3) r
  | 0, j, hq, hj, hin => by
    refine h.succ 0 fun k _ => ?_
    rw [bus_Send.l1, if_neg (by omega), if_pos (by omega), if_pos (by omega), ← hL]
  | q + 1, j, hq, hj, hin => by
    obtain ⟨h1, h2⟩ := hin j (Nat.le_refl _) (by omega)
    refine (send_l1 i hi m L hL hl n r h q (j + 1) (by omega) (by omega) (fun t a b => hin t (by omega) b)).succ 0 fun k _ => ?_
    rw [bus_Send.l1, if_pos (by omega), if_pos (by omega), if_pos (by omega), if_neg (by omega), if_neg (by omega), nNx j (by omega)]
theorem send_l1_bad (i : Nat) (m : S55) (L : List Int) (hl : L.length ≤ 1000) (n : Int) : ∀ q j, L.length - j = q → ¬ inB m L j →
    EvS (fun k => bus_Send.l1 k l la T (i : Int) l n (i : Int) L (L.length : Int) (j : Int) m.f0 m.f1 m.f2 m.f3) errA
  | 0, j, hq, hin => absurd (fun t a b => by omega) hin
  | q + 1, j, hq, hin => by
    by_cases hb : 0 ≤ rd L (j : Int) ∧ rd L (j : Int) ≤ m.f3
    · refine (send_l1_bad i m L hl n q (j + 1) (by omega) (fun h => hin fun t a b => ?_)).succ 0 fun k _ => ?_
      · by_cases ht : t = j
        · subst ht; exact hb
        · exact h t (by omega) b
      · rw [bus_Send.l1, if_pos (by omega), if_pos (by omega), if_pos (by omega), if_neg (by omega), if_neg (by omega), nNx j (by omega)]
    · refine EvS.now 0 fun k _ => ?_
      rw [bus_Send.l1, if_pos (by omega), if_pos (by omega), if_pos (by omega)]
      by_cases h0 : rd L (j : Int) < 0
      · rw [if_pos h0]; rfl
      · rw [if_neg h0, if_pos (by omega)]; rfl
theorem send_l2 (i : Nat) (hi : i < la.length) (hi9 : i ≤ 1000) (m : S55) (hm : okM m = true) (L : List Int) (hL : L = rd_L1 la (i : Int)) (hl : L.length ≤ 1000) (n : Int) (r : Option SRes) (hin : inB m L 0)
    (h : EvS (fun k => bus_Send.l0 k l la T l n ((i + 1 : Nat) : Int)) r) : ∀ q j, L.length - j = q → j ≤ L.length → upB m L j →
    EvS (fun k => bus_Send.l2 k l la T (i : Int) l n (i : Int) (L.length : Int) (j : Int) m.f0 m.f1 m.f2 m.f3) r
  | 0, j, hq, hj, hup => by
    refine h.succ 0 fun k _ => ?_
    rw [bus_Send.l2, if_neg (by omega), nNx i (by omega)]
  | q + 1, j, hq, hj, hup => by
    obtain ⟨_, _, _, _, p1, p2, _, d2⟩ := (okM_iff m).1 hm
    have hu := hup j (Nat.le_refl _) (by omega)
    have e1 := at_eq m.f0 m.f1 m.f2 m.f3 L j (by omega) p1 p2 (fun hj => by have := hin j (by omega) hj; omega)
    have e2 := at_eq m.f0 m.f1 m.f2 m.f3 L (j + 1) (by omega) p1 p2 (fun hj => by have := hin (j + 1) (by omega) hj; omega)
    refine (send_l2 i hi hi9 m hm L hL hl n r hin h q (j + 1) (by omega) (by omega) (fun t a b => hup t (by omega) b)).succ 0 fun k _ => ?_
    rw [bus_Send.l2, if_pos (by omega), if_pos (by omega), if_pos (by omega), ← hL, e1, Option.bind_some, nNx j (by omega), e2, Option.bind_some, if_neg (by omega)]
theorem send_l2_bad (i : Nat) (hi : i < la.length) (m : S55) (hm : okM m = true) (L : List Int) (hL : L = rd_L1 la (i : Int)) (hl : L.length ≤ 1000) (n : Int) (hin : inB m L 0) : ∀ q j, L.length - j = q → ¬ upB m L j →
    EvS (fun k => bus_Send.l2 k l la T (i : Int) l n (i : Int) (L.length : Int) (j : Int) m.f0 m.f1 m.f2 m.f3) errA
  | 0, j, hq, hup => absurd (fun t a b => by omega) hup
  | q + 1, j, hq, hup => by
    obtain ⟨_, _, _, _, p1, p2, _, d2⟩ := (okM_iff m).1 hm
    have e1 := at_eq m.f0 m.f1 m.f2 m.f3 L j (by omega) p1 p2 (fun hj => by have := hin j (by omega) hj; omega)
    have e2 := at_eq m.f0 m.f1 m.f2 m.f3 L (j + 1) (by omega) p1 p2 (fun hj => by have := hin (j + 1) (by omega) hj; omega)
    by_cases hb : dueN m.f2 L j < dueN m.f2 L (j + 1)
    · refine (send_l2_bad i hi m hm L hL hl n hin q (j + 1) (by omega) (fun h => hup fun t a b => ?_)).succ 0 fun k _ => ?_
      · by_cases ht : t = j
        · subst ht; exact hb
        · exact h t (by omega) b
      · rw [bus_Send.l2, if_pos (by omega), if_pos (by omega), if_pos (by omega), ← hL, e1, Option.bind_some, nNx j (by omega), e2, Option.bind_some, if_neg (by omega)]
    · refine EvS.now 0 fun k _ => ?_
      rw [bus_Send.l2, if_pos (by omega), if_pos (by omega), if_pos (by omega), ← hL, e1, Option.bind_some, nNx j (by omega), e2, Option.bind_some, if_pos (by omega)]
      rfl
theorem late_l1 (i : Nat) (hi : i < la.length) (hil : i < l.length) (hi9 : i ≤ 1000) (m : S55) (hmi : m = rd_T55 l (i : Int)) (hm : okM m = true) (L : List Int) (hL : L = rd_L1 la (i : Int)) (hl : L.length ≤ 1000) (r : Option Bool)
    (h : EvS (fun k => neonwrightref08_Late.l0 k l la ((i + 1 : Nat) : Int)) r) : ∀ q j, L.length - j = q → j ≤ L.length → inB m L j → upB m L j →
    EvS (fun k => neonwrightref08_Late.l1 k l la (i : Int) (j : Int)) r
  | 0, j, hq, hj, hin, hup => by
    refine h.succ 0 fun k _ => ?_
    rw [neonwrightref08_Late.l1, if_pos (by omega), if_pos (by omega), ← hL, if_neg (by omega), nNx i (by omega)]
  | q + 1, j, hq, hj, hin, hup => by
    obtain ⟨_, _, _, _, p1, p2, _, d2⟩ := (okM_iff m).1 hm
    have hu := hup j (Nat.le_refl _) (by omega)
    obtain ⟨b1, b2⟩ := hin j (Nat.le_refl _) (by omega)
    have e1 := at_eq m.f0 m.f1 m.f2 m.f3 L j (by omega) p1 p2 (fun hj => by omega)
    have e2 := at_eq m.f0 m.f1 m.f2 m.f3 L (j + 1) (by omega) p1 p2 (fun hj => by have := hin (j + 1) (by omega) hj; omega)
    refine (late_l1 i hi hil hi9 m hmi hm L hL hl r h q (j + 1) (by omega) (by omega) (fun t a b => hin t (by omega) b) (fun t a b => hup t (by omega) b)).succ 0 fun k _ => ?_
    rw [neonwrightref08_Late.l1, if_pos (by omega), if_pos (by omega), ← hL, if_pos (by omega), if_pos (by omega), if_neg (by omega), if_pos (by omega), ← hmi, if_neg (by omega), due_is_at, e1, Option.bind_some, nNx j (by omega), e2, Option.bind_some, if_neg (by omega)]
theorem late_l1_bad (i : Nat) (hi : i < la.length) (hil : i < l.length) (m : S55) (hmi : m = rd_T55 l (i : Int)) (hm : okM m = true) (L : List Int) (hL : L = rd_L1 la (i : Int)) (hl : L.length ≤ 1000) : ∀ q j, L.length - j = q → ¬ (inB m L j ∧ upB m L j) →
    EvS (fun k => neonwrightref08_Late.l1 k l la (i : Int) (j : Int)) (some false)
  | 0, j, hq, hn => absurd ⟨fun t a b => by omega, fun t a b => by omega⟩ hn
  | q + 1, j, hq, hn => by
    obtain ⟨_, _, _, _, p1, p2, _, d2⟩ := (okM_iff m).1 hm
    by_cases c1 : rd L (j : Int) < 0
    · refine EvS.now 0 fun k _ => ?_
      rw [neonwrightref08_Late.l1, if_pos (by omega), if_pos (by omega), ← hL, if_pos (by omega), if_pos (by omega), if_pos c1]
    by_cases c2 : rd L (j : Int) > m.f3
    · refine EvS.now 0 fun k _ => ?_
      rw [neonwrightref08_Late.l1, if_pos (by omega), if_pos (by omega), ← hL, if_pos (by omega), if_pos (by omega), if_neg c1, if_pos (by omega), ← hmi, if_pos c2]
    have e1 := at_eq m.f0 m.f1 m.f2 m.f3 L j (by omega) p1 p2 (fun hj => by omega)
    obtain ⟨v, e2⟩ := at_some m.f0 m.f1 m.f2 m.f3 L (j + 1)
    by_cases hb : dueN m.f2 L j < v
    · refine (late_l1_bad i hi hil m hmi hm L hL hl q (j + 1) (by omega) (fun h => hn ?_)).succ 0 fun k _ => ?_
      · have e3 := at_eq m.f0 m.f1 m.f2 m.f3 L (j + 1) (by omega) p1 p2 (fun hj => by have := h.1 (j + 1) (by omega) hj; omega)
        rw [e3] at e2
        obtain rfl := Option.some.inj e2
        refine ⟨fun t a b => ?_, fun t a b => ?_⟩
        · by_cases ht : t = j
          · subst ht; omega
          · exact h.1 t (by omega) b
        · by_cases ht : t = j
          · subst ht; exact hb
          · exact h.2 t (by omega) b
      · rw [neonwrightref08_Late.l1, if_pos (by omega), if_pos (by omega), ← hL, if_pos (by omega), if_pos (by omega), if_neg c1, if_pos (by omega), ← hmi, if_neg c2, due_is_at, e1, Option.bind_some, nNx j (by omega), e2, Option.bind_some, if_neg (by omega)]
    · refine EvS.now 0 fun k _ => ?_
      rw [neonwrightref08_Late.l1, if_pos (by omega), if_pos (by omega), ← hL, if_pos (by omega), if_pos (by omega), if_neg c1, if_pos (by omega), ← hmi, if_neg c2, due_is_at, e1, Option.bind_some, nNx j (by omega), e2, Option.bind_some, if_pos (by omega)]
variable (hl8 : l.length ≤ 8) (hM : ∀ i, i < l.length → okM (rd_T55 l (i : Int)) = true) (hla : la.length = l.length) (hsz : ∀ i, i < la.length → (rd_L1 la (i : Int)).length ≤ 1000)
include hl8 hM hla hsz
def okFrom (i : Nat) : Prop := ∀ t, i ≤ t → t < l.length → okL (rd_T55 l (t : Int)) (rd_L1 la (t : Int))
theorem send_l0 (r : Option SRes) (h : EvS (fun k => bus_Send.l3 k l la T (List.replicate l.length 0) 0 l (l.length : Int) 0) r) : ∀ q i, l.length - i = q → i ≤ l.length → okFrom l la i →
    EvS (fun k => bus_Send.l0 k l la T l (l.length : Int) (i : Int)) r
  | 0, i, hq, hi, hok => by
    refine h.succ 0 fun k _ => ?_
    rw [bus_Send.l0, if_neg (by omega), if_pos (by omega), if_pos (by omega)]
    rfl
  | q + 1, i, hq, hi, hok => by
    obtain ⟨g1, g2⟩ := hok i (Nat.le_refl _) (by omega)
    have ih := send_l0 r h q (i + 1) (by omega) (by omega) (fun t a b => hok t (by omega) b)
    have h2 := send_l2 l la T i (by omega) (by omega) (rd_T55 l (i : Int)) (hM i (by omega)) (rd_L1 la (i : Int)) rfl (hsz i (by omega)) (l.length : Int) r g1 ih _ 0 rfl (by omega) g2
    have h1 := send_l1 l la T i (by omega) (rd_T55 l (i : Int)) (rd_L1 la (i : Int)) rfl (hsz i (by omega)) (l.length : Int) r h2 _ 0 rfl (by omega) g1
    refine h1.succ 0 fun k _ => ?_
    rw [bus_Send.l0, if_pos (by omega), if_pos (by omega), if_pos (by omega), if_pos (by omega)]
    rfl
theorem send_l0_bad : ∀ q i, l.length - i = q → ¬ okFrom l la i → EvS (fun k => bus_Send.l0 k l la T l (l.length : Int) (i : Int)) errA
  | 0, i, hq, hok => absurd (fun t a b => by omega) hok
  | q + 1, i, hq, hok => by
    by_cases g1 : inB (rd_T55 l (i : Int)) (rd_L1 la (i : Int)) 0
    · by_cases g2 : upB (rd_T55 l (i : Int)) (rd_L1 la (i : Int)) 0
      · have ih := send_l0_bad q (i + 1) (by omega) (fun h => hok fun t a b => by
          by_cases ht : t = i
          · subst ht; exact ⟨g1, g2⟩
          · exact h t (by omega) b)
        have h2 := send_l2 l la T i (by omega) (by omega) (rd_T55 l (i : Int)) (hM i (by omega)) (rd_L1 la (i : Int)) rfl (hsz i (by omega)) (l.length : Int) errA g1 ih _ 0 rfl (by omega) g2
        have h1 := send_l1 l la T i (by omega) (rd_T55 l (i : Int)) (rd_L1 la (i : Int)) rfl (hsz i (by omega)) (l.length : Int) errA h2 _ 0 rfl (by omega) g1
        refine h1.succ 0 fun k _ => ?_
        rw [bus_Send.l0, if_pos (by omega), if_pos (by omega), if_pos (by omega), if_pos (by omega)]
        rfl
      · have h2 := send_l2_bad l la T i (by omega) (rd_T55 l (i : Int)) (hM i (by omega)) (rd_L1 la (i : Int)) rfl (hsz i (by omega)) (l.length : Int) g1 _ 0 rfl g2
        have h1 := send_l1 l la T i (by omega) (rd_T55 l (i : Int)) (rd_L1 la (i : Int)) rfl (hsz i (by omega)) (l.length : Int) errA h2 _ 0 rfl (by omega) g1
        refine h1.succ 0 fun k _ => ?_
        rw [bus_Send.l0, if_pos (by omega), if_pos (by omega), if_pos (by omega), if_pos (by omega)]
        rfl
    · have h1 := send_l1_bad l la T i (rd_T55 l (i : Int)) (rd_L1 la (i : Int)) (hsz i (by omega)) (l.length : Int) _ 0 rfl g1
      refine h1.succ 0 fun k _ => ?_
      rw [bus_Send.l0, if_pos (by omega), if_pos (by omega), if_pos (by omega), if_pos (by omega)]
      rfl
theorem late_l0 : ∀ q i, l.length - i = q → i ≤ l.length → okFrom l la i → EvS (fun k => neonwrightref08_Late.l0 k l la (i : Int)) (some true)
  | 0, i, hq, hi, hok => EvS.now 0 fun k _ => by rw [neonwrightref08_Late.l0, if_neg (by omega)]
  | q + 1, i, hq, hi, hok => by
    obtain ⟨g1, g2⟩ := hok i (Nat.le_refl _) (by omega)
    have ih := late_l0 q (i + 1) (by omega) (by omega) (fun t a b => hok t (by omega) b)
    have h1 := late_l1 l la i (by omega) (by omega) (by omega) (rd_T55 l (i : Int)) rfl (hM i (by omega)) (rd_L1 la (i : Int)) rfl (hsz i (by omega)) _ ih _ 0 rfl (by omega) g1 g2
    refine h1.succ 0 fun k _ => ?_
    rw [neonwrightref08_Late.l0, if_pos (by omega)]
    rfl
theorem late_l0_bad : ∀ q i, l.length - i = q → ¬ okFrom l la i → EvS (fun k => neonwrightref08_Late.l0 k l la (i : Int)) (some false)
  | 0, i, hq, hok => absurd (fun t a b => by omega) hok
  | q + 1, i, hq, hok => by
    by_cases g : inB (rd_T55 l (i : Int)) (rd_L1 la (i : Int)) 0 ∧ upB (rd_T55 l (i : Int)) (rd_L1 la (i : Int)) 0
    · have ih := late_l0_bad q (i + 1) (by omega) (fun h => hok fun t a b => by
        by_cases ht : t = i
        · subst ht; exact g
        · exact h t (by omega) b)
      have h1 := late_l1 l la i (by omega) (by omega) (by omega) (rd_T55 l (i : Int)) rfl (hM i (by omega)) (rd_L1 la (i : Int)) rfl (hsz i (by omega)) _ ih _ 0 rfl (by omega) g.1 g.2
      refine h1.succ 0 fun k _ => ?_
      rw [neonwrightref08_Late.l0, if_pos (by omega)]
      rfl
    · have h1 := late_l1_bad l la i (by omega) (by omega) (rd_T55 l (i : Int)) rfl (hM i (by omega)) (rd_L1 la (i : Int)) rfl (hsz i (by omega)) _ 0 rfl g
      refine h1.succ 0 fun k _ => ?_
      rw [neonwrightref08_Late.l0, if_pos (by omega)]
      rfl
end
end Go.Proofs.YtbanemecfobonaaDoor.B
