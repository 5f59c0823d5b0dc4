/- Written by a program (lite.py) from my texts. -/
import Derived.Test.YtbanemecfobonaaDoorU10v
import Derived.Test.YtbanemecfobonaaDoorBLSv
import Derived.Test.YtbanemecfobonaaDoorBM3v
namespace Go.Proofs.YtbanemecfobonaaDoor.B
open Go.RowKit Go.Proofs.YtbanemecfobonaaDoorW.PrintWords Go.Proofs.YtbanemecfobonaaDoorW.PrintLast Go.Proofs.YtbanemecfobonaaDoorW.PrintMore
set_option linter.unusedVariables false
set_option linter.unusedSimpArgs false
def dueN (p : Int) (L : List Int) (j : Nat) : Int := if j < L.length then (j : Int) * p + rd L (j : Int) else (j : Int) * p
theorem due_is_at : r8_due.f = bus_at.f := rfl
theorem mulB (j : Nat) (p : Int) (hj : j ≤ 100000) (h1 : 1 ≤ p) (h2 : p ≤ 100000) : 0 ≤ (j : Int) * p ∧ (j : Int) * p ≤ 10000000000 := by
  refine ⟨Int.mul_nonneg z3 z3, ?_⟩
  have : (j : Int) * p ≤ 100000 * 100000 := Int.mul_le_mul z3 h2 z3 z3
  omega
theorem at_eq (a b p d : Int) (L : List Int) (j : Nat) (hj : j ≤ 100000) (h1 : 1 ≤ p) (h2 : p ≤ 100000) (hr : j < L.length → 0 ≤ rd L (j : Int) ∧ rd L (j : Int) ≤ 100000) : bus_at.f a b p d L (j : Int) = some (dueN p L j) := by
  obtain ⟨m1, m2⟩ := mulB j p hj h1 h2
  unfold bus_at.f dueN
  by_cases hl : j < L.length
  · obtain ⟨r1, r2⟩ := hr hl
    rw [if_pos z3, if_pos z3, if_pos hl, w64s ((j : Int) * p) z3 z3, w64s _ z3 z3]
  · rw [if_neg z3, if_neg hl, w64s _ z3 z3]
def inB (m : S55) (L : List Int) (j : Nat) : Prop := ∀ t, j ≤ t → t < L.length → 0 ≤ rd L (t : Int) ∧ rd L (t : Int) ≤ m.f3
def upB (m : S55) (L : List Int) (j : Nat) : Prop := ∀ t, j ≤ t → t < L.length → dueN m.f2 L t < dueN m.f2 L (t + 1)
def okL (m : S55) (L : List Int) : Prop := inB m L 0 ∧ upB m L 0
section
variable (l : List S55) (la : List (List Int)) (T : Int)
abbrev SRes := List S74 × Int
def errA : Option SRes := some ([], 2)
theorem send_l1 (i : Nat) (hi : i < la.length) (m : S55) (L : List Int) (hL : L = rd_L1 la (i : Int)) (hl : L.length ≤ 1000) (n : Int) (r : Option SRes)
    (h : EvS (fun k => bus_Send.l2 k l la T (i : Int) l n (i : Int) (L.length : Int) 0 m.f0 m.f1 m.f2 m.f3) r) : ∀ q j, L.length - j = q → j ≤ L.length → inB m L j →
    EvS (fun k => bus_Send.l1 k l la T (i : Int) l n (i : Int) L (L.length : Int) (j : Int) m.f0 m.f1 m.f2 m.f3) r
  | 0, j, hq, hj, hin => by
    refine h.succ 0 fun k _ => ?_
    rw [bus_Send.l1, if_neg z3, if_pos z3, if_pos z3, ← hL]
  | q + 1, j, hq, hj, hin => by
    obtain ⟨h1, h2⟩ := hin j (Nat.le_refl _) z3
    refine (send_l1 i hi m L hL hl n r h q (j + 1) z3 z3 (fun t a b => hin t z3 b)).succ 0 fun k _ => ?_
    rw [bus_Send.l1, if_pos z3, if_pos z3, if_pos z3, if_neg z3, if_neg z3, nNx j z3]
theorem send_l1_bad (i : Nat) (m : S55) (L : List Int) (hl : L.length ≤ 1000) (n : Int) : ∀ q j, L.length - j = q → ¬ inB m L j →
    EvS (fun k => bus_Send.l1 k l la T (i : Int) l n (i : Int) L (L.length : Int) (j : Int) m.f0 m.f1 m.f2 m.f3) errA
  | 0, j, hq, hin => absurd (fun t a b => by omega) hin
  | q + 1, j, hq, hin => by
    by_cases hb : 0 ≤ rd L (j : Int) ∧ rd L (j : Int) ≤ m.f3
    · refine (send_l1_bad i m L hl n q (j + 1) z3 (fun h => hin fun t a b => ?_)).succ 0 fun k _ => ?_
      · by_cases ht : t = j
        · subst ht; exact hb
        · exact h t z3 b
      · rw [bus_Send.l1, if_pos z3, if_pos z3, if_pos z3, if_neg z3, if_neg z3, nNx j z3]
    · refine EvS.now 0 fun k _ => ?_
      rw [bus_Send.l1, if_pos z3, if_pos z3, if_pos z3]
      by_cases h0 : rd L (j : Int) < 0
      · rw [if_pos h0]; rfl
      · rw [if_neg h0, if_pos z3]; rfl
theorem send_l2 (i : Nat) (hi : i < la.length) (hi9 : i ≤ 1000) (m : S55) (hm : okM m = true) (L : List Int) (hL : L = rd_L1 la (i : Int)) (hl : L.length ≤ 1000) (n : Int) (r : Option SRes) (hin : inB m L 0)
    (h : EvS (fun k => bus_Send.l0 k l la T l n ((i + 1 : Nat) : Int)) r) : ∀ q j, L.length - j = q → j ≤ L.length → upB m L j →
    EvS (fun k => bus_Send.l2 k l la T (i : Int) l n (i : Int) (L.length : Int) (j : Int) m.f0 m.f1 m.f2 m.f3) r
  | 0, j, hq, hj, hup => by
    refine h.succ 0 fun k _ => ?_
    rw [bus_Send.l2, if_neg z3, nNx i z3]
  | q + 1, j, hq, hj, hup => by
    obtain ⟨_, _, _, _, p1, p2, _, d2⟩ := (okM_iff m).1 hm
    have hu := hup j (Nat.le_refl _) z3
    have e1 := at_eq m.f0 m.f1 m.f2 m.f3 L j z3 p1 p2 (fun hj => by have := hin j z3 hj; omega)
    have e2 := at_eq m.f0 m.f1 m.f2 m.f3 L (j + 1) z3 p1 p2 (fun hj => by have := hin (j + 1) z3 hj; omega)
    refine (send_l2 i hi hi9 m hm L hL hl n r hin h q (j + 1) z3 z3 (fun t a b => hup t z3 b)).succ 0 fun k _ => ?_
    rw [bus_Send.l2, if_pos z3, if_pos z3, if_pos z3, ← hL, e1, Option.bind_some, nNx j z3, e2, Option.bind_some, if_neg z3]
theorem send_l2_bad (i : Nat) (hi : i < la.length) (m : S55) (hm : okM m = true) (L : List Int) (hL : L = rd_L1 la (i : Int)) (hl : L.length ≤ 1000) (n : Int) (hin : inB m L 0) : ∀ q j, L.length - j = q → ¬ upB m L j →
    EvS (fun k => bus_Send.l2 k l la T (i : Int) l n (i : Int) (L.length : Int) (j : Int) m.f0 m.f1 m.f2 m.f3) errA
  | 0, j, hq, hup => absurd (fun t a b => by omega) hup
  | q + 1, j, hq, hup => by
    obtain ⟨_, _, _, _, p1, p2, _, d2⟩ := (okM_iff m).1 hm
    have e1 := at_eq m.f0 m.f1 m.f2 m.f3 L j z3 p1 p2 (fun hj => by have := hin j z3 hj; omega)
    have e2 := at_eq m.f0 m.f1 m.f2 m.f3 L (j + 1) z3 p1 p2 (fun hj => by have := hin (j + 1) z3 hj; omega)
    by_cases hb : dueN m.f2 L j < dueN m.f2 L (j + 1)
    · refine (send_l2_bad i hi m hm L hL hl n hin q (j + 1) z3 (fun h => hup fun t a b => ?_)).succ 0 fun k _ => ?_
      · by_cases ht : t = j
        · subst ht; exact hb
        · exact h t z3 b
      · rw [bus_Send.l2, if_pos z3, if_pos z3, if_pos z3, ← hL, e1, Option.bind_some, nNx j z3, e2, Option.bind_some, if_neg z3]
    · refine EvS.now 0 fun k _ => ?_
      rw [bus_Send.l2, if_pos z3, if_pos z3, if_pos z3, ← hL, e1, Option.bind_some, nNx j z3, e2, Option.bind_some, if_pos z3]
      rfl
variable (hl8 : l.length ≤ 8) (hM : ∀ i, i < l.length → okM (rd_T55 l (i : Int)) = true) (hla : la.length = l.length) (hsz : ∀ i, i < la.length → (rd_L1 la (i : Int)).length ≤ 1000)
include hl8 hM hla hsz
def okFrom (i : Nat) : Prop := ∀ t, i ≤ t → t < l.length → okL (rd_T55 l (t : Int)) (rd_L1 la (t : Int))
theorem send_l0 (r : Option SRes) (h : EvS (fun k => bus_Send.l3 k l la T (List.replicate l.length 0) 0 l (l.length : Int) 0) r) : ∀ q i, l.length - i = q → i ≤ l.length → okFrom l la i →
    EvS (fun k => bus_Send.l0 k l la T l (l.length : Int) (i : Int)) r
  | 0, i, hq, hi, hok => by
    refine h.succ 0 fun k _ => ?_
    rw [bus_Send.l0, if_neg z3, if_pos z3, if_pos z3]
    rfl
  | q + 1, i, hq, hi, hok => by
    obtain ⟨g1, g2⟩ := hok i (Nat.le_refl _) z3
    have ih := send_l0 r h q (i + 1) z3 z3 (fun t a b => hok t z3 b)
    have h2 := send_l2 l la T i z3 z3 (rd_T55 l (i : Int)) (hM i z3) (rd_L1 la (i : Int)) rfl (hsz i z3) (l.length : Int) r g1 ih _ 0 rfl z3 g2
    have h1 := send_l1 l la T i z3 (rd_T55 l (i : Int)) (rd_L1 la (i : Int)) rfl (hsz i z3) (l.length : Int) r h2 _ 0 rfl z3 g1
    refine h1.succ 0 fun k _ => ?_
    rw [bus_Send.l0, if_pos z3, if_pos z3, if_pos z3, if_pos z3]
    rfl
theorem send_l0_bad : ∀ q i, l.length - i = q → ¬ okFrom l la i → EvS (fun k => bus_Send.l0 k l la T l (l.length : Int) (i : Int)) errA
  | 0, i, hq, hok => absurd (fun t a b => by omega) hok
  | q + 1, i, hq, hok => by
    by_cases g1 : inB (rd_T55 l (i : Int)) (rd_L1 la (i : Int)) 0
    · by_cases g2 : upB (rd_T55 l (i : Int)) (rd_L1 la (i : Int)) 0
      · have ih := send_l0_bad q (i + 1) z3 (fun h => hok fun t a b => by
          by_cases ht : t = i
          · subst ht; exact ⟨g1, g2⟩
          · exact h t z3 b)
        have h2 := send_l2 l la T i z3 z3 (rd_T55 l (i : Int)) (hM i z3) (rd_L1 la (i : Int)) rfl (hsz i z3) (l.length : Int) errA g1 ih _ 0 rfl z3 g2
        have h1 := send_l1 l la T i z3 (rd_T55 l (i : Int)) (rd_L1 la (i : Int)) rfl (hsz i z3) (l.length : Int) errA h2 _ 0 rfl z3 g1
        refine h1.succ 0 fun k _ => ?_
        rw [bus_Send.l0, if_pos z3, if_pos z3, if_pos z3, if_pos z3]
        rfl
      · have h2 := send_l2_bad l la T i z3 (rd_T55 l (i : Int)) (hM i z3) (rd_L1 la (i : Int)) rfl (hsz i z3) (l.length : Int) g1 _ 0 rfl g2
        have h1 := send_l1 l la T i z3 (rd_T55 l (i : Int)) (rd_L1 la (i : Int)) rfl (hsz i z3) (l.length : Int) errA h2 _ 0 rfl z3 g1
        refine h1.succ 0 fun k _ => ?_
        rw [bus_Send.l0, if_pos z3, if_pos z3, if_pos z3, if_pos z3]
        rfl
    · have h1 := send_l1_bad l la T i (rd_T55 l (i : Int)) (rd_L1 la (i : Int)) (hsz i z3) (l.length : Int) _ 0 rfl g1
      refine h1.succ 0 fun k _ => ?_
      rw [bus_Send.l0, if_pos z3, if_pos z3, if_pos z3, if_pos z3]
      rfl
end
end Go.Proofs.YtbanemecfobonaaDoor.B
