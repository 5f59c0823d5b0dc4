/- The law's columns; Unordered, plainly. -/
import Derived.Test.YtfbibheeogcacaaDoorXP1
import Derived.Test.YtfbibheeogcacaaDoorBU
namespace Go.Proofs.YtfbibheeogcacaaDoor.B
open Go.RowKit Go.Proofs.YtfbibheeogcacaaDoorW.PrintWords Go.Proofs.YtfbibheeogcacaaDoorW.PrintLast Go.Proofs.YtfbibheeogcacaaDoorW.PrintMore
set_option linter.unusedVariables false
set_option linter.unusedSimpArgs false
def addV (i : Nat) (x : Int) : Int := wrap64 (x + shl .i64 1 (i : Int))
def colsL (n : Nat) (l : List (List Int)) : List Int := colF addV n l l.length
section
variable (n : Nat) (l : List (List Int)) (hl : l.length ≤ 1000) (hg : ∀ i : Nat, i < l.length → (rd_L1 l (i : Int)).length ≤ 9223372036854775807 ∧ ∀ j : Nat, j < (rd_L1 l (i : Int)).length → 0 ≤ rd (rd_L1 l (i : Int)) (j : Int) ∧ rd (rd_L1 l (i : Int)) (j : Int) < (n : Int))
include hl hg
theorem lcol_l1 (i : Nat) (hi : i < l.length) (cs : List Int) (hcs : cs.length = n) (r : Option (List Int))
    (H : EvS (fun k => neonwrighttop_columns.l0 k l (rowF (addV i) cs (rd_L1 l (i : Int)) (rd_L1 l (i : Int)).length) ((i + 1 : Nat) : Int)) r) :
    ∀ m j : Nat, (rd_L1 l (i : Int)).length - j = m → j ≤ (rd_L1 l (i : Int)).length → EvS (fun k => neonwrighttop_columns.l1 k l (rowF (addV i) cs (rd_L1 l (i : Int)) j) (i : Int) (j : Int)) r
  | 0, j, hm, hj => by
    obtain rfl : j = (rd_L1 l (i : Int)).length := by omega
    refine H.succ fun k => ?_
    rw [neonwrighttop_columns.l1, if_pos (by omega), if_pos (by omega), if_neg (by omega), nNx i (by omega)]
  | m + 1, j, hm, hj => by
    have ih := lcol_l1 i hi cs hcs r H m (j + 1) (by omega) (by omega)
    obtain ⟨g0, g1⟩ := hg i hi
    obtain ⟨g2, g3⟩ := g1 j (by omega)
    refine ih.succ fun k => ?_
    rw [neonwrighttop_columns.l1, if_pos (by omega), if_pos (by omega), if_pos (by omega), if_pos (by omega), if_pos g2, if_pos (by rw [rowF_len, hcs]; exact g3), nNx j (by omega)]
    rfl
theorem lcol_l0 : ∀ m i : Nat, l.length - i = m → i ≤ l.length → EvS (fun k => neonwrighttop_columns.l0 k l (colF addV n l i) (i : Int)) (some (colsL n l))
  | 0, i, hm, hi => by
    obtain rfl : i = l.length := by omega
    exact EvS.now fun k => by rw [neonwrighttop_columns.l0, if_neg (by omega)]; rfl
  | m + 1, i, hm, hi => by
    have ih := lcol_l0 m (i + 1) (by omega) (by omega)
    have h := lcol_l1 n l hl hg i (by omega) (colF addV n l i) (colF_len addV n l i) _ ih _ 0 rfl (by omega)
    refine h.succ fun k => ?_
    rw [neonwrighttop_columns.l0, if_pos (by omega)]
    rfl
theorem lcols_ev (hn : n ≤ 1000) : EvS (fun k => neonwrighttop_columns.f k (n : Int) l) (some (colsL n l)) := by
  obtain ⟨K, h⟩ := lcol_l0 n l hl hg l.length 0 (by omega) (by omega)
  refine ⟨K, fun k hk => ?_⟩
  have := h k hk
  show neonwrighttop_columns.f k (n : Int) l = _
  unfold neonwrighttop_columns.f
  rw [if_pos (by omega), if_pos (by omega), Int.toNat_natCast]
  exact this
end
theorem colsL_rd (n : Nat) (l : List (List Int)) (hl : l.length ≤ 60) (hr : ∀ i : Nat, i < l.length → risB (rd_L1 l (i : Int)) (n : Int) (rd_L1 l (i : Int)).length = true) (t : Nat) (ht : t < n) : rd (colsL n l) (t : Int) = (mTo l t l.length : Int) :=
  colF_rd _ n l (fun i x hi hx => plus_add x i hi hx) hl hr t ht l.length (Nat.le_refl _)
theorem colsL_len (n : Nat) (l : List (List Int)) : (colsL n l).length = n := colF_len addV n l l.length
/-- Does one of two signs cover the other? -/
def covB (a b : Int) : Bool := (Go.bits .and .i64 a b == b) || (Go.bits .and .i64 b a == a)
section
variable (c : List Int) (hc : c.length ≤ 1000)
include hc
theorem un_l1 (i : Nat) (hi : i < c.length) (Q : List Int × Int → Prop) (hne : ∀ j : Nat, i < j → j < c.length → covB (rd c (i : Int)) (rd c (j : Int)) = true → Q ([(i : Int), (j : Int)], 0))
    (H : ∃ r, EvS (fun k => code_Unordered.l0 k c c (c.length : Int) ((i + 1 : Nat) : Int)) (some r) ∧ ((∀ j : Nat, i < j → j < c.length → covB (rd c (i : Int)) (rd c (j : Int)) = false) → Q r)) :
    ∀ m j : Nat, c.length - j = m → i < j → j ≤ c.length → (∀ q : Nat, i < q → q < j → covB (rd c (i : Int)) (rd c (q : Int)) = false) → ∃ r, EvS (fun k => code_Unordered.l1 k c (i : Int) (rd c (i : Int)) (j : Int) c (c.length : Int) (i : Int)) (some r) ∧ Q r
  | 0, j, hm, hij, hj, hq => by
    obtain rfl : j = c.length := by omega
    obtain ⟨r, h1, h2⟩ := H
    refine ⟨r, h1.succ fun k => ?_, h2 hq⟩
    rw [code_Unordered.l1, if_neg (by omega), nNx i (by omega)]
  | m + 1, j, hm, hij, hj, hq => by
    have hcv : ∀ a b, code_covers.f a b = some (Go.bits .and .i64 a b == b) := fun a b => rfl
    by_cases h1 : (Go.bits .and .i64 (rd c (i : Int)) (rd c (j : Int)) == rd c (j : Int)) = true
    · exact ⟨_, EvS.now fun k => by rw [code_Unordered.l1, if_pos (by omega), if_pos (by omega), hcv, Option.bind_some, if_pos h1], hne j hij (by omega) (by unfold covB; rw [h1]; rfl)⟩
    by_cases h2 : (Go.bits .and .i64 (rd c (j : Int)) (rd c (i : Int)) == rd c (i : Int)) = true
    · exact ⟨_, EvS.now fun k => by rw [code_Unordered.l1, if_pos (by omega), if_pos (by omega), hcv, Option.bind_some, if_neg h1, hcv, Option.bind_some, if_pos h2], hne j hij (by omega) (by unfold covB; rw [h2, Bool.or_true])⟩
    have hb : covB (rd c (i : Int)) (rd c (j : Int)) = false := by
      unfold covB
      have e1 : (Go.bits .and .i64 (rd c (i : Int)) (rd c (j : Int)) == rd c (j : Int)) = false := by simpa using h1
      have e2 : (Go.bits .and .i64 (rd c (j : Int)) (rd c (i : Int)) == rd c (i : Int)) = false := by simpa using h2
      rw [e1, e2]; rfl
    obtain ⟨r, g1, g2⟩ := un_l1 i hi Q hne H m (j + 1) (by omega) (by omega) (by omega) (fun q q1 q2 => by
      by_cases e : q = j
      · subst e; exact hb
      · exact hq q q1 (by omega))
    refine ⟨r, g1.succ fun k => ?_, g2⟩
    rw [code_Unordered.l1, if_pos (by omega), if_pos (by omega), hcv, Option.bind_some, if_neg h1, hcv, Option.bind_some, if_neg h2, nNx j (by omega)]
/-- No pair: nil; else two numbers. -/
theorem un_l0 : ∀ m i : Nat, c.length - i = m → i ≤ c.length → ∃ r : List Int × Int, EvS (fun k => code_Unordered.l0 k c c (c.length : Int) (i : Int)) (some r) ∧ r.2 = 0 ∧ (r.1.length = 0 ↔ ∀ p q : Nat, i ≤ p → p < q → q < c.length → covB (rd c (p : Int)) (rd c (q : Int)) = false)
  | 0, i, hm, hi => by
    obtain rfl : i = c.length := by omega
    exact ⟨([], 0), EvS.now fun k => by rw [code_Unordered.l0, if_neg (by omega)], rfl, ⟨fun _ p q _ _ _ => by omega, fun _ => rfl⟩⟩
  | m + 1, i, hm, hi => by
    obtain ⟨r0, h0, h1, h2⟩ := un_l0 m (i + 1) (by omega) (by omega)
    obtain ⟨r, g1, g2, g3⟩ := un_l1 c hc i (by omega) (fun r => r.2 = 0 ∧ (r.1.length = 0 ↔ ∀ p q : Nat, i ≤ p → p < q → q < c.length → covB (rd c (p : Int)) (rd c (q : Int)) = false))
      (fun j hij hj hcv => ⟨rfl, ⟨fun h => by simp at h, fun h => by
        have := h i j (Nat.le_refl _) hij hj
        rw [hcv] at this; cases this⟩⟩)
      ⟨r0, h0, fun hall => ⟨h1, h2.trans ⟨fun h p q hp hpq hq => by
        by_cases e : p = i
        · subst e; exact hall q hpq hq
        · exact h p q (by omega) hpq hq, fun h p q hp hpq hq => h p q (by omega) hpq hq⟩⟩⟩
      _ (i + 1) rfl (by omega) (by omega) (fun q q1 q2 => by omega)
    refine ⟨r, g1.succ fun k => ?_, g2, g3⟩
    rw [code_Unordered.l0, if_pos (by omega), if_pos (by omega), if_pos (by omega), nNx i (by omega)]
theorem un_ev (n : Int) (hr : rngB c c.length = true) : ∃ r : List Int × Int, EvS (fun k => code_Unordered.f k n c) (some r) ∧ r.2 = sgE n c ∧ (sgE n c = 0 → (r.1.length = 0 ↔ ∀ p q : Nat, p < q → q < c.length → covB (rd c (p : Int)) (rd c (q : Int)) = false)) := by
  have hs : code_signs.f n c = some (sgE n c) := by unfold code_signs.f; rw [if_pos hr]
  by_cases h : sgE n c = 0
  · obtain ⟨r, ⟨K, g1⟩, g2, g3⟩ := un_l0 c hc c.length 0 (by omega) (by omega)
    refine ⟨r, ⟨K, fun k hk => ?_⟩, by rw [g2, h], fun _ => g3.trans ⟨fun h p q h1 h2 => h p q (by omega) h1 h2, fun h p q _ h1 h2 => h p q h1 h2⟩⟩
    have := g1 k hk
    show code_Unordered.f k n c = _
    unfold code_Unordered.f
    rw [hs, Option.bind_some, if_pos h]
    exact this
  · refine ⟨([], sgE n c), ⟨0, fun k _ => ?_⟩, rfl, fun h0 => absurd h0 h⟩
    show code_Unordered.f k n c = _
    unfold code_Unordered.f
    rw [hs, Option.bind_some, if_neg h]
end
end Go.Proofs.YtfbibheeogcacaaDoor.B
