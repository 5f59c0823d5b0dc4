/- The design's columns, plainly; Hidden's contract in the printer's form. -/
import Derived.Test.YtfbibheeogcacaaDoorXC7
import Derived.Test.YtfbibheeogcacaaDoorXC8
namespace Go.Proofs.YtfbibheeogcacaaDoor.B
open Go.RowKit Go.Proofs.YtfbibheeogcacaaDoorW.PrintWords Go.Proofs.YtfbibheeogcacaaDoorW.PrintLast Go.Proofs.YtfbibheeogcacaaDoorW.PrintMore
set_option linter.unusedVariables false
set_option linter.unusedSimpArgs false

/-- From some number of rounds on, a loop answers r. -/
def EvS {α : Type} (f : Nat → Option α) (r : Option α) : Prop := ∃ K, ∀ k, K ≤ k → f k = r
theorem EvS.succ {α : Type} {f g : Nat → Option α} {r : Option α} (h : EvS g r) (hs : ∀ k, f (k + 1) = g k) : EvS f r := by
  obtain ⟨K, hK⟩ := h
  refine ⟨K + 1, fun k hk => ?_⟩
  obtain ⟨k', rfl⟩ : ∃ k', k = k' + 1 := ⟨k - 1, by omega⟩
  rw [hs k']
  exact hK k' (by omega)
theorem EvS.now {α : Type} {f : Nat → Option α} {r : Option α} (hs : ∀ k, f (k + 1) = r) : EvS f r :=
  ⟨1, fun k hk => by
    obtain ⟨k', rfl⟩ : ∃ k', k = k' + 1 := ⟨k - 1, by omega⟩
    exact hs k'⟩
theorem risB_at (l : List Int) (n : Int) : ∀ m, risB l n m = true → ∀ j : Nat, j < m → 0 ≤ rd l (j : Int) ∧ rd l (j : Int) < n
  | 0, _, j, hj => by omega
  | m + 1, h, j, hj => by
    have e : risB l n (m + 1) = (risB l n m && (decide (0 ≤ rd l (m : Int)) && decide (rd l (m : Int) < n) && (m == 0 || decide (rd l ((m : Int) - 1) < rd l (m : Int))))) := rfl
    rw [e, Bool.and_eq_true, Bool.and_eq_true, Bool.and_eq_true, decide_eq_true_eq, decide_eq_true_eq] at h
    by_cases c : j = m
    · subst c; exact h.2.1
    · exact risB_at l n m h.1 j (by omega)
def famV (x i : Int) : Int := Go.bits .or .u64 x (shl .u64 1 i)
theorem fam_ev (x i : Int) (hi : 0 ≤ i) : find_family.f x i = some (famV x i) := by unfold find_family.f famV; rw [if_pos hi]
def rowTo (cs : List Int) (i : Int) (row : List Int) : Nat → List Int
  | 0 => cs
  | j + 1 => (rowTo cs i row j).set (rd row (j : Int)).toNat (famV (rd (rowTo cs i row j) (rd row (j : Int))) i)
theorem rowTo_len (cs : List Int) (i : Int) (row : List Int) : ∀ j, (rowTo cs i row j).length = cs.length
  | 0 => rfl
  | j + 1 => by simp only [rowTo]; rw [List.length_set]; exact rowTo_len cs i row j
def colTo (n : Nat) (l : List (List Int)) : Nat → List Int
  | 0 => List.replicate n 0
  | i + 1 => rowTo (colTo n l i) (i : Int) (rd_L1 l (i : Int)) (rd_L1 l (i : Int)).length
theorem colTo_len (n : Nat) (l : List (List Int)) : ∀ i, (colTo n l i).length = n
  | 0 => List.length_replicate
  | i + 1 => by simp only [colTo]; rw [rowTo_len]; exact colTo_len n l i
def colsD (n : Nat) (l : List (List Int)) : List Int := colTo n l l.length
section
variable (n : Nat) (l : List (List Int)) (hl : l.length ≤ 1000) (hg : ∀ i : Nat, i < l.length → (rd_L1 l (i : Int)).length ≤ 9223372036854775807 ∧ ∀ j : Nat, j < (rd_L1 l (i : Int)).length → 0 ≤ rd (rd_L1 l (i : Int)) (j : Int) ∧ rd (rd_L1 l (i : Int)) (j : Int) < (n : Int))
include hl hg
theorem col_l1 (i : Nat) (hi : i < l.length) (cs : List Int) (hcs : cs.length = n) (r : Option (List Int × Int))
    (H : EvS (fun k => find_design_columns.l0 k (rowTo cs (i : Int) (rd_L1 l (i : Int)) (rd_L1 l (i : Int)).length) l (l.length : Int) ((i + 1 : Nat) : Int) (n : Int) l) r) :
    ∀ m j : Nat, (rd_L1 l (i : Int)).length - j = m → j ≤ (rd_L1 l (i : Int)).length → EvS (fun k => find_design_columns.l1 k (rowTo cs (i : Int) (rd_L1 l (i : Int)) j) (i : Int) l (l.length : Int) (i : Int) (rd_L1 l (i : Int)) ((rd_L1 l (i : Int)).length : Int) (j : Int) (n : Int) l) r
  | 0, j, hm, hj => by
    obtain rfl : j = (rd_L1 l (i : Int)).length := by omega
    refine H.succ fun k => ?_
    rw [find_design_columns.l1, if_neg (by omega), nNx i (by omega)]
  | m + 1, j, hm, hj => by
    have ih := col_l1 i hi cs hcs r H m (j + 1) (by omega) (by omega)
    obtain ⟨g0, g1⟩ := hg i hi
    obtain ⟨g2, g3⟩ := g1 j (by omega)
    refine ih.succ fun k => ?_
    rw [find_design_columns.l1, if_pos (by omega), if_pos (by omega), if_pos (by omega), if_pos g2, if_pos (by rw [rowTo_len, hcs]; exact g3), fam_ev _ _ (by omega), Option.bind_some, nNx j (by omega)]
    rfl
theorem col_l0 : ∀ m i : Nat, l.length - i = m → i ≤ l.length → EvS (fun k => find_design_columns.l0 k (colTo n l i) l (l.length : Int) (i : Int) (n : Int) l) (some (colsD n l, (n : Int)))
  | 0, i, hm, hi => by
    obtain rfl : i = l.length := by omega
    exact EvS.now fun k => by rw [find_design_columns.l0, if_neg (by omega)]; rfl
  | m + 1, i, hm, hi => by
    have ih := col_l0 m (i + 1) (by omega) (by omega)
    have h := col_l1 n l hl hg i (by omega) (colTo n l i) (colTo_len n l i) _ ih _ 0 rfl (by omega)
    refine h.succ fun k => ?_
    rw [find_design_columns.l0, if_pos (by omega), if_pos (by omega), if_pos (by omega)]
    rfl
theorem cols_ev (hn : n ≤ 1000) : ∃ k, find_design_columns.f k (n : Int) l = some (colsD n l, (n : Int)) := by
  obtain ⟨K, h⟩ := col_l0 n l hl hg l.length 0 (by omega) (by omega)
  refine ⟨K, ?_⟩
  have := h K (Nat.le_refl _)
  unfold find_design_columns.f
  rw [if_pos (by omega), if_pos (by omega), Int.toNat_natCast]
  exact this
end
theorem ofE_zero {n : Int} {l : List (List Int)} (he : ofE n l = 0) : 1 ≤ n ∧ n ≤ 49 ∧ l.length ≤ 60 ∧ ∀ i : Nat, i < l.length → risB (rd_L1 l (i : Int)) n (rd_L1 l (i : Int)).length = true := by
  unfold ofE at he
  by_cases c1 : n < 1 ∨ 49 < n
  · rw [if_pos c1] at he; exact absurd he (by decide)
  rw [if_neg c1] at he
  by_cases c3 : 60 < (l.length : Int)
  · rw [if_pos c3] at he; exact absurd he (by decide)
  rw [if_neg c3] at he
  by_cases c4 : 0 ≤ badI n l
  · rw [if_pos c4] at he; exact absurd he (by decide)
  refine ⟨by omega, by omega, by omega, fun i hi => ?_⟩
  rcases idxB_spec (fun i => !risB (rd_L1 l (i : Int)) n (rd_L1 l (i : Int)).length) l.length 0 with ⟨h1, h2⟩ | ⟨t, h1, h2, h3, h4⟩
  · have := h2 i (by omega) (by omega)
    simpa using this
  · exact absurd (show 0 ≤ badI n l by unfold badI; rw [h1]; omega) c4
def find_Hidden.f (n : Int) (l : List (List Int)) (d : Int) : Option (List Int × Int) := if d = 1 then (if ofE n l = 0 then some (hidL (colsD n.toNat l) n.toNat n.toNat 0, 0) else some ([], ofE n l)) else none
theorem find_Hidden.calls (a0 : Int) (A1 : Option Addr) (c1 : Nat) (l1 : List (List Int)) (a2 : Int) (r1 : List Int) (r2 : Int) (w : World) (hr1 : Kd.C (Kd.slice 3 (Kd.int .i64)) w A1 l1.length l1) (hc1 : l1.length ≤ c1) (h : find_Hidden.f a0 l1 a2 = some (r1, r2)) :
    Calls Tryd.prog 5 #[.int .i64 a0, .slice A1 l1.length c1, .int .i64 a2] w fun e w' => ∃ v1_ : Value, e = .returned (.tuple #[v1_, .int .i64 r2]) ∧ Kd.R (Kd.int .i64) 3 w' w.heap.size (fun _ => True) v1_ r1 ∧ Below w.heap.size w w' := by
  unfold find_Hidden.f at h
  by_cases c : a2 = 1
  · rw [if_pos c] at h
    subst c
    by_cases he : ofE a0 l1 = 0
    · rw [if_pos he] at h
      obtain ⟨rfl, rfl⟩ := Prod.mk.inj (Option.some.inj h)
      obtain ⟨h1, h2, h3, h4⟩ := ofE_zero he
      obtain ⟨n, rfl⟩ : ∃ n : Nat, a0 = (n : Int) := Int.eq_ofNat_of_zero_le (by omega)
      rw [Int.toNat_natCast]
      have hg : ∀ i : Nat, i < l1.length → (rd_L1 l1 (i : Int)).length ≤ 9223372036854775807 ∧ ∀ j : Nat, j < (rd_L1 l1 (i : Int)).length → 0 ≤ rd (rd_L1 l1 (i : Int)) (j : Int) ∧ rd (rd_L1 l1 (i : Int)) (j : Int) < (n : Int) := fun i hi => by
        obtain ⟨ad, A, ca, e0, hx0, hca, hra⟩ := at_L1 hr1 (i : Int) (by omega) (by omega)
        exact ⟨by have := hra.2.1; omega, risB_at _ _ _ (h4 i hi)⟩
      obtain ⟨k, hk⟩ := cols_ev n l1 (by omega) hg (by omega)
      exact find_Hidden_ok n A1 c1 l1 (colsD n l1) k w hr1 he (by omega) hk (colTo_len n l1 l1.length)
    · rw [if_neg he] at h
      obtain ⟨rfl, rfl⟩ := Prod.mk.inj (Option.some.inj h)
      refine (find_Hidden_bad a0 1 A1 c1 l1 w hr1 he).mono ?_
      rintro e w' ⟨rfl, hb⟩
      exact ⟨_, rfl, Kd.R_nil _ _ _ _ _, hb⟩
  · rw [if_neg c] at h; cases h
def rngB (l : List Int) : Nat → Bool
  | 0 => true
  | i + 1 => rngB l i && (decide (-9223372036854775808 ≤ rd l (i : Int)) && decide (rd l (i : Int) ≤ 9223372036854775807))
theorem rngB_at (l : List Int) : ∀ m, rngB l m = true → ∀ i : Nat, i < m → -9223372036854775808 ≤ rd l (i : Int) ∧ rd l (i : Int) ≤ 9223372036854775807
  | 0, _, i, hi => by omega
  | m + 1, h, i, hi => by
    have e : rngB l (m + 1) = (rngB l m && (decide (-9223372036854775808 ≤ rd l (m : Int)) && decide (rd l (m : Int) ≤ 9223372036854775807))) := rfl
    rw [e, Bool.and_eq_true, Bool.and_eq_true, decide_eq_true_eq, decide_eq_true_eq] at h
    by_cases c : i = m
    · subst c; exact h.2
    · exact rngB_at l m h.1 i (by omega)
def code_signs.f (n : Int) (l : List Int) : Option Int := if rngB l l.length = true then some (sgE n l) else none
theorem code_signs.calls (a0 : Int) (A1 : Option Addr) (c1 : Nat) (l1 : List Int) (r1 : Int) (w : World) (hr1 : Kd.C (Kd.int .i64) w A1 l1.length l1) (hc1 : l1.length ≤ c1) (h : code_signs.f a0 l1 = some r1) :
    Calls Tryd.prog 16 #[.int .i64 a0, .slice A1 l1.length c1] w fun e w' => e = .returned (.int .i64 r1) ∧ Below w.heap.size w w' := by
  unfold code_signs.f at h
  by_cases c : rngB l1 l1.length = true
  · rw [if_pos c] at h
    obtain rfl := Option.some.inj h
    exact code_signs.calls0 a0 A1 c1 l1 w hr1 (rngB_at l1 l1.length c)
  · rw [if_neg c] at h; cases h
end Go.Proofs.YtfbibheeogcacaaDoor.B
