/- Bits of numbers that are not negative; what a row adds to columns. -/
import Derived.Test.YtfbibheeogcacaaDoorXC9
import Derived.Lib.QuoteBits
namespace Go.Proofs.YtfbibheeogcacaaDoor.B
open Go.RowKit Go.Proofs.YtfbibheeogcacaaDoorW.PrintWords Go.Proofs.YtfbibheeogcacaaDoorW.PrintLast Go.Proofs.YtfbibheeogcacaaDoorW.PrintMore
set_option linter.unusedVariables false
set_option linter.unusedSimpArgs false
theorem wrapu_small (n : Nat) (h : n < 18446744073709551616) : IntKind.u64.wrap (n : Int) = (n : Int) := by
  have e : (n : Int) % 2 ^ 64 = n := Int.emod_eq_of_lt (by omega) (by omega)
  simp only [IntKind.wrap, IntKind.bits, IntKind.signed, e]
  simp
theorem and_i (a b : Nat) (ha : a < 4611686018427387904) (hb : b < 4611686018427387904) : Go.bits .and .i64 (a : Int) (b : Int) = ((a &&& b : Nat) : Int) := by
  show IntKind.i64.wrap ((BitVec.ofInt 64 (a : Int) &&& BitVec.ofInt 64 (b : Int)).toNat : Int) = _
  rw [BitVec.toNat_and, ofInt_u64 a (by omega), ofInt_u64 b (by omega)]
  exact Lib.wrap_i64_small _ (Nat.lt_of_le_of_lt Nat.and_le_left (by omega))
theorem or_u (a b : Nat) (ha : a < 4611686018427387904) (hb : b < 4611686018427387904) : Go.bits .or .u64 (a : Int) (b : Int) = ((a ||| b : Nat) : Int) := by
  show IntKind.u64.wrap ((BitVec.ofInt 64 (a : Int) ||| BitVec.ofInt 64 (b : Int)).toNat : Int) = _
  rw [BitVec.toNat_or, ofInt_u64 a (by omega), ofInt_u64 b (by omega)]
  exact wrapu_small _ (Nat.lt_trans (Nat.or_lt_two_pow (n := 62) (by omega) (by omega)) (by decide))
theorem andNot_u (a b : Nat) (ha : a < 4611686018427387904) (hb : b < 4611686018427387904) : Go.bits .andNot .u64 (a : Int) (b : Int) = ((a &&& (2 ^ 64 - (b + 1)) : Nat) : Int) := by
  show IntKind.u64.wrap ((BitVec.ofInt 64 (a : Int) &&& ~~~BitVec.ofInt 64 (b : Int)).toNat : Int) = _
  rw [BitVec.toNat_and, BitVec.toNat_not, ofInt_u64 a (by omega), ofInt_u64 b (by omega)]
  have e : 2 ^ 64 - 1 - b = 2 ^ 64 - (b + 1) := by omega
  rw [e]
  exact wrapu_small _ (Nat.lt_of_le_of_lt Nat.and_le_left (by omega))
theorem sub_iff (a b : Nat) (ha : a < 4611686018427387904) (hb : b < 4611686018427387904) : a &&& (2 ^ 64 - (b + 1)) = 0 ↔ b &&& a = a := by
  constructor
  · intro h
    apply Nat.eq_of_testBit_eq
    intro i
    have h1 := congrArg (fun x => x.testBit i) h
    simp only [Nat.testBit_and, Nat.zero_testBit] at h1 ⊢
    rw [Nat.testBit_two_pow_sub_succ (by omega)] at h1
    cases hai : a.testBit i
    · simp
    · rw [hai] at h1
      have hi : i < 64 := by
        rcases Nat.lt_or_ge i 64 with h | h
        · exact h
        · have := Nat.testBit_lt_two_pow (x := a) (i := i) (Nat.lt_of_lt_of_le (by omega) (Nat.pow_le_pow_right (by decide) h))
          rw [hai] at this; cases this
      rw [decide_eq_true hi] at h1
      simp at h1
      simp [h1]
  · intro h
    apply Nat.eq_of_testBit_eq
    intro i
    have h1 := congrArg (fun x => x.testBit i) h
    simp only [Nat.testBit_and, Nat.zero_testBit] at h1 ⊢
    rw [Nat.testBit_two_pow_sub_succ (by omega)]
    cases hai : a.testBit i
    · simp
    · rw [hai] at h1
      simp at h1
      simp [h1]
theorem shl_u (i : Nat) (h : i ≤ 60) : shl .u64 1 (i : Int) = ((2 ^ i : Nat) : Int) := by
  unfold shl
  rw [Int.toNat_natCast, Nat.min_eq_left (show i ≤ IntKind.u64.bits by show i ≤ 64; omega), Int.one_mul]
  have h2 : (2 : Nat) ^ i < 18446744073709551616 := Nat.lt_of_le_of_lt (Nat.pow_le_pow_right (by decide) h) (by decide)
  have := wrapu_small (2 ^ i) h2
  rw [← this]; push_cast; rfl
theorem shl_i (i : Nat) (h : i ≤ 60) : shl .i64 1 (i : Int) = ((2 ^ i : Nat) : Int) := by
  unfold shl
  rw [Int.toNat_natCast, Nat.min_eq_left (show i ≤ IntKind.i64.bits by show i ≤ 64; omega), Int.one_mul]
  have h2 : (2 : Nat) ^ i < 9223372036854775808 := Nat.lt_of_le_of_lt (Nat.pow_le_pow_right (by decide) h) (by decide)
  have := Lib.wrap_i64_small (2 ^ i) h2
  rw [← this]; push_cast; rfl
/-- One bit more. -/
theorem fam_add (x i : Nat) (hi : i ≤ 60) (hx : x < 2 ^ i) : famV (x : Int) (i : Int) = ((x + 2 ^ i : Nat) : Int) := by
  have h2 : (2 : Nat) ^ i ≤ 1152921504606846976 := Nat.pow_le_pow_right (by decide) hi
  unfold famV
  rw [shl_u i hi, or_u x (2 ^ i) (by omega) (by omega)]
  congr 1
  rw [Nat.add_comm, Nat.or_comm]
  have := Nat.two_pow_add_eq_or_of_lt hx 1
  simpa using this.symm
theorem plus_add (x i : Nat) (hi : i ≤ 60) (hx : x < 2 ^ i) : wrap64 ((x : Int) + shl .i64 1 (i : Int)) = ((x + 2 ^ i : Nat) : Int) := by
  have h2 : (2 : Nat) ^ i ≤ 1152921504606846976 := Nat.pow_le_pow_right (by decide) hi
  rw [shl_i i hi, w64s _ (by omega) (by omega)]
  push_cast; rfl
/-- Columns, a row's first j tubes changed by f. -/
def rowF (f : Int → Int) (cs row : List Int) : Nat → List Int
  | 0 => cs
  | j + 1 => (rowF f cs row j).set (rd row (j : Int)).toNat (f (rd (rowF f cs row j) (rd row (j : Int))))
theorem rowTo_F (cs : List Int) (i : Int) (row : List Int) : ∀ j, rowTo cs i row j = rowF (fun x => famV x i) cs row j
  | 0 => rfl
  | j + 1 => by simp only [rowTo, rowF]; rw [rowTo_F cs i row j]
theorem rowF_len (f : Int → Int) (cs row : List Int) : ∀ j, (rowF f cs row j).length = cs.length
  | 0 => rfl
  | j + 1 => by simp only [rowF]; rw [List.length_set]; exact rowF_len f cs row j
def inF (row : List Int) (t : Int) : Nat → Bool
  | 0 => false
  | j + 1 => inF row t j || decide (rd row (j : Int) = t)
theorem inF_iff (row : List Int) (t : Int) : ∀ m, inF row t m = true ↔ ∃ j : Nat, j < m ∧ rd row (j : Int) = t
  | 0 => ⟨fun h => (by cases h), fun ⟨j, h, _⟩ => by omega⟩
  | m + 1 => by
    have ih := inF_iff row t m
    have e : inF row t (m + 1) = (inF row t m || decide (rd row (m : Int) = t)) := rfl
    rw [e, Bool.or_eq_true, ih, decide_eq_true_eq]
    constructor
    · rintro (⟨j, h1, h2⟩ | h)
      · exact ⟨j, by omega, h2⟩
      · exact ⟨m, by omega, h⟩
    · rintro ⟨j, h1, h2⟩
      by_cases c : j = m
      · subst c; exact .inr h2
      · exact .inl ⟨j, by omega, h2⟩
theorem risB_lt (l : List Int) (n : Int) : ∀ m, risB l n m = true → ∀ q j : Nat, q < j → j < m → rd l (q : Int) < rd l (j : Int)
  | 0, _, q, j, _, hj => by omega
  | m + 1, h, q, j, hq, hj => by
    have e : risB l n (m + 1) = (risB l n m && (decide (0 ≤ rd l (m : Int)) && decide (rd l (m : Int) < n) && (m == 0 || decide (rd l ((m : Int) - 1) < rd l (m : Int))))) := rfl
    rw [e, Bool.and_eq_true, Bool.and_eq_true, Bool.or_eq_true, decide_eq_true_eq] at h
    by_cases c : j = m
    · subst c
      have h2 : rd l ((j : Int) - 1) < rd l (j : Int) := by
        rcases h.2.2 with h2 | h2
        · have : j = 0 := by simpa using h2
          omega
        · exact h2
      by_cases c2 : q + 1 = j
      · have : (j : Int) - 1 = (q : Int) := by omega
        rwa [this] at h2
      · have h3 := risB_lt l n j h.1 q (j - 1) (by omega) (by omega)
        have : ((j - 1 : Nat) : Int) = (j : Int) - 1 := by omega
        rw [this] at h3
        omega
    · exact risB_lt l n m h.1 q j hq (by omega)
theorem rd_setN (x : List Int) (b : Nat) (v : Int) (hb : b < x.length) (i : Nat) : rd (x.set b v) (i : Int) = if i = b then v else rd x (i : Int) := by
  show (x.set b v).getD i 0 = if i = b then v else x.getD i 0
  rw [List.getD_eq_getElem?_getD, List.getElem?_set]
  by_cases h : i = b
  · subst h; rw [if_pos rfl, if_pos rfl, if_pos hb]; rfl
  · rw [if_neg (fun e => h e.symm), if_neg h, List.getD_eq_getElem?_getD]
/-- Each tube of the row is changed once. -/
theorem rowF_rd (f : Int → Int) (cs row : List Int) (n : Int) (hn : n = (cs.length : Int)) (hr : risB row n row.length = true) (t : Nat) (ht : t < cs.length) : ∀ j, j ≤ row.length → rd (rowF f cs row j) (t : Int) = if inF row (t : Int) j = true then f (rd cs (t : Int)) else rd cs (t : Int)
  | 0, _ => by rw [if_neg (by simp [inF])]; rfl
  | j + 1, hj => by
    have ih := rowF_rd f cs row n hn hr t ht j (by omega)
    obtain ⟨h0, h1⟩ := risB_at row n row.length hr j (by omega)
    have e : inF row (t : Int) (j + 1) = (inF row (t : Int) j || decide (rd row (j : Int) = (t : Int))) := rfl
    obtain ⟨p, hp⟩ : ∃ p : Nat, rd row (j : Int) = (p : Int) := Int.eq_ofNat_of_zero_le h0
    simp only [rowF]
    rw [hp, Int.toNat_natCast, rd_setN _ p _ (by rw [rowF_len]; omega), e, hp]
    by_cases c : t = p
    · subst c
      have hnot : inF row (t : Int) j = false := by
        cases hh : inF row (t : Int) j
        · rfl
        · obtain ⟨q, hq, hq2⟩ := (inF_iff row (t : Int) j).mp hh
          have := risB_lt row n row.length hr q j hq (by omega)
          omega
      rw [if_pos rfl, ih, hnot, if_neg (by simp), if_pos (by simp)]
    · rw [if_neg c, ih]
      have : decide ((p : Int) = (t : Int)) = false := decide_eq_false (by omega)
      rw [this, Bool.or_false]
/-- The tests that tube t is in, of the first i. -/
def mTo (l : List (List Int)) (t : Nat) : Nat → Nat
  | 0 => 0
  | i + 1 => mTo l t i + if inF (rd_L1 l (i : Int)) (t : Int) (rd_L1 l (i : Int)).length = true then 2 ^ i else 0
theorem mTo_lt (l : List (List Int)) (t : Nat) : ∀ i, mTo l t i < 2 ^ i
  | 0 => by simp [mTo]
  | i + 1 => by
    have ih := mTo_lt l t i
    simp only [mTo]
    rw [Nat.pow_succ]
    split <;> omega
/-- Columns by any operation that adds a bit. -/
def colF (f : Nat → Int → Int) (n : Nat) (l : List (List Int)) : Nat → List Int
  | 0 => List.replicate n 0
  | i + 1 => rowF (f i) (colF f n l i) (rd_L1 l (i : Int)) (rd_L1 l (i : Int)).length
theorem colF_len (f : Nat → Int → Int) (n : Nat) (l : List (List Int)) : ∀ i, (colF f n l i).length = n
  | 0 => List.length_replicate
  | i + 1 => by simp only [colF]; rw [rowF_len]; exact colF_len f n l i
theorem colF_rd (f : Nat → Int → Int) (n : Nat) (l : List (List Int)) (hf : ∀ i x : Nat, i ≤ 60 → x < 2 ^ i → f i (x : Int) = ((x + 2 ^ i : Nat) : Int)) (hl : l.length ≤ 60) (hr : ∀ i : Nat, i < l.length → risB (rd_L1 l (i : Int)) (n : Int) (rd_L1 l (i : Int)).length = true) (t : Nat) (ht : t < n) : ∀ i, i ≤ l.length → rd (colF f n l i) (t : Int) = (mTo l t i : Int)
  | 0, _ => by
    show (List.replicate n (0 : Int)).getD t 0 = _
    rw [List.getD_eq_getElem?_getD, List.getElem?_replicate, if_pos ht]; rfl
  | i + 1, hi => by
    have ih := colF_rd f n l hf hl hr t ht i (by omega)
    simp only [colF]
    rw [rowF_rd (f i) (colF f n l i) (rd_L1 l (i : Int)) (n : Int) (by rw [colF_len]) (hr i (by omega)) t (by rw [colF_len]; exact ht) _ (Nat.le_refl _), ih]
    simp only [mTo]
    split
    · rw [hf i _ (by omega) (mTo_lt l t i)]
    · rw [Nat.add_zero]
theorem colTo_F (n : Nat) (l : List (List Int)) : ∀ i, colTo n l i = colF (fun i x => famV x (i : Int)) n l i
  | 0 => rfl
  | i + 1 => by simp only [colTo, colF]; rw [rowTo_F, colTo_F n l i]
theorem colsD_rd (n : Nat) (l : List (List Int)) (hl : l.length ≤ 60) (hr : ∀ i : Nat, i < l.length → risB (rd_L1 l (i : Int)) (n : Int) (rd_L1 l (i : Int)).length = true) (t : Nat) (ht : t < n) : rd (colsD n l) (t : Int) = (mTo l t l.length : Int) := by
  unfold colsD
  rw [colTo_F]
  exact colF_rd _ n l (fun i x hi hx => fam_add x i hi hx) hl hr t ht l.length (Nat.le_refl _)
end Go.Proofs.YtfbibheeogcacaaDoor.B
