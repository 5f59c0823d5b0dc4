/- Plain facts on the checks: the program's check and the specification's are one function of the bits. -/
import Derived.Test.YtbanemecfobonaaDoorBRA
import Derived.Test.YtbanemecfobonaaDoorBL
namespace Go.Proofs.YtbanemecfobonaaDoor.B
open Go.RowKit Go.Proofs.YtbanemecfobonaaDoorW.PrintWords Go.Proofs.YtbanemecfobonaaDoorW.PrintLast Go.Proofs.YtbanemecfobonaaDoorW.PrintMore
set_option linter.unusedVariables false
set_option linter.unusedSimpArgs false

theorem w64 (n : Int) (h1 : -9223372036854775808 ≤ n) (h2 : n ≤ 9223372036854775807) : wrap64 n = n := by
  unfold wrap64; omega
theorem i64_xor_nat (a b : Nat) (ha : a < 32768) (hb : b < 32768) : Go.bits .xor .i64 (a : Int) (b : Int) = ((a ^^^ b : Nat) : Int) := by
  have hx : a ^^^ b < 2 ^ 15 := Nat.xor_lt_two_pow (by omega) (by omega)
  show IntKind.i64.wrap ((BitVec.ofInt 64 (a : Int) ^^^ BitVec.ofInt 64 (b : Int)).toNat : Int) = _
  have e1 : (BitVec.ofInt 64 (a : Int)).toNat = a := by rw [BitVec.ofInt_natCast, BitVec.toNat_ofNat]; exact Nat.mod_eq_of_lt (by omega)
  have e2 : (BitVec.ofInt 64 (b : Int)).toNat = b := by rw [BitVec.ofInt_natCast, BitVec.toNat_ofNat]; exact Nat.mod_eq_of_lt (by omega)
  rw [BitVec.toNat_xor, e1, e2]
  simp [IntKind.wrap, IntKind.bits, IntKind.signed]
  omega
theorem i64_and_nat (a : Nat) (ha : a < 65536) : Go.bits .and .i64 (a : Int) 32767 = ((a % 32768 : Nat) : Int) := by
  show IntKind.i64.wrap ((BitVec.ofInt 64 (a : Int) &&& BitVec.ofInt 64 ((32767 : Nat) : Int)).toNat : Int) = _
  have e1 : (BitVec.ofInt 64 (a : Int)).toNat = a := by rw [BitVec.ofInt_natCast, BitVec.toNat_ofNat]; exact Nat.mod_eq_of_lt (by omega)
  have e2 : (BitVec.ofInt 64 ((32767 : Nat) : Int)).toNat = 2 ^ 15 - 1 := by rw [BitVec.ofInt_natCast, BitVec.toNat_ofNat]
  rw [BitVec.toNat_and, e1, e2, Nat.and_two_pow_sub_one_eq_mod]
  simp [IntKind.wrap, IntKind.bits, IntKind.signed]
  omega

/-- A bit goes into a check. -/
def stepC (c : Nat) (b : Int) : Nat := if ((c / 16384 : Nat) : Int) = b then 2 * c % 32768 else (2 * c % 32768) ^^^ 17817
theorem stepC_lt (c : Nat) (b : Int) : stepC c b < 32768 := by
  unfold stepC
  split
  · omega
  · exact Nat.xor_lt_two_pow (n := 15) (by omega) (by omega)
/-- The check of bits. -/
def chk (l : List Int) : Nat := l.foldl stepC 0
theorem foldC_lt (l : List Int) (c : Nat) (h : c < 32768) : l.foldl stepC c < 32768 := by
  induction l generalizing c with
  | nil => exact h
  | cons b l ih => exact ih _ (stepC_lt c b)
theorem chk_lt (l : List Int) : chk l < 32768 := foldC_lt l 0 (by decide)
theorem drop_rd (x : List Int) (i : Nat) (h : i < x.length) : x.drop i = rd x (i : Int) :: x.drop (i + 1) := by
  rw [List.drop_eq_getElem_cons h]
  congr 1
  show _ = x.getD ((i : Int)).toNat 0
  rw [List.getD_eq_getElem?_getD, Int.toNat_natCast, List.getElem?_eq_getElem h]
  rfl

theorem ref_check_l0 (x : List Int) (hx : x.length ≤ 1000000000) : ∀ (k i c : Nat), i ≤ x.length → x.length - i < k → c < 32768 → neonwrightref08_check.l0 k x (c : Int) (i : Int) = some (((x.drop i).foldl stepC c : Nat) : Int)
  | 0, _, _, _, h, _ => by omega
  | k + 1, i, c, hi, hk, hc => by
    unfold neonwrightref08_check.l0
    by_cases h : i < x.length
    · have e1 : Int.tmod ((c : Int) / 16384) 2 = ((c / 16384 : Nat) : Int) := by rw [Int.tmod_eq_emod_of_nonneg (by omega)]; omega
      have e2 : Int.tmod (wrap64 ((c : Int) * 2)) 32768 = ((2 * c % 32768 : Nat) : Int) := by rw [w64 _ (by omega) (by omega), Int.tmod_eq_emod_of_nonneg (by omega)]; omega
      have e3 : wrap64 ((i : Int) + 1) = ((i + 1 : Nat) : Int) := by rw [w64 _ (by omega) (by omega)]; omega
      have e4 : Go.bits .xor .i64 ((2 * c % 32768 : Nat) : Int) 17817 = (((2 * c % 32768) ^^^ 17817 : Nat) : Int) := i64_xor_nat (2 * c % 32768) 17817 (by omega) (by decide)
      rw [if_pos (by omega), if_pos (by omega), e1, e2, e3, e4, drop_rd x i h, List.foldl_cons, stepC]
      split
      · exact ref_check_l0 x hx k (i + 1) _ (by omega) (by omega) (by omega)
      · exact ref_check_l0 x hx k (i + 1) _ (by omega) (by omega) (Nat.xor_lt_two_pow (n := 15) (by omega) (by omega))
    · rw [if_neg (by omega), List.drop_eq_nil_of_le (by omega)]
      rfl
theorem ref_check (x : List Int) (hx : x.length ≤ 1000000000) (k : Nat) (hk : x.length < k) : neonwrightref08_check.f k x = some ((chk x : Nat) : Int) := by
  have := ref_check_l0 x hx k 0 0 (by omega) (by omega) (by decide)
  simpa [neonwrightref08_check.f, chk] using this

theorem bus_check_l0 (x : List Int) (hx : x.length ≤ 1000000000) : ∀ (k i c : Nat), i ≤ x.length → x.length - i < k → c < 32768 → bus_check.l0 k (c : Int) x (x.length : Int) (i : Int) = some (((x.drop i).foldl stepC c : Nat) : Int)
  | 0, _, _, _, h, _ => by omega
  | k + 1, i, c, hi, hk, hc => by
    unfold bus_check.l0
    by_cases h : i < x.length
    · have e1 : (c : Int) / 16384 = ((c / 16384 : Nat) : Int) := by omega
      have e2 : Go.bits .and .i64 (wrap64 ((c : Int) * 2)) 32767 = ((2 * c % 32768 : Nat) : Int) := by
        rw [w64 _ (by omega) (by omega)]
        have := i64_and_nat (2 * c) (by omega)
        rw [← this]
        congr 1
        omega
      have e3 : wrap64 ((i : Int) + 1) = ((i + 1 : Nat) : Int) := by rw [w64 _ (by omega) (by omega)]; omega
      have e4 : Go.bits .xor .i64 ((2 * c % 32768 : Nat) : Int) 17817 = (((2 * c % 32768) ^^^ 17817 : Nat) : Int) := i64_xor_nat (2 * c % 32768) 17817 (by omega) (by decide)
      rw [if_pos (by omega), if_pos (by omega), if_pos (by omega), e1, e2, e3, e4, drop_rd x i h, List.foldl_cons, stepC]
      split
      · exact bus_check_l0 x hx k (i + 1) _ (by omega) (by omega) (by omega)
      · exact bus_check_l0 x hx k (i + 1) _ (by omega) (by omega) (Nat.xor_lt_two_pow (n := 15) (by omega) (by omega))
    · rw [if_neg (by omega), List.drop_eq_nil_of_le (by omega)]
      rfl
theorem bus_check_eq (x : List Int) (hx : x.length ≤ 1000000000) (k : Nat) (hk : x.length < k) : bus_check.f k x = some ((chk x : Nat) : Int) := by
  have := bus_check_l0 x hx k 0 0 (by omega) (by omega) (by decide)
  simpa [bus_check.f, chk] using this

/-- Are these at most 200 bits? -/
def binB (l : List Int) : Bool := decide (l.length ≤ 200) && !l.any (fun x => x != 0 && x != 1)
theorem Listed_l0 (x : List Int) (hx : x.length ≤ 1000000000) : ∀ (k i : Nat), i ≤ x.length → x.length - i < k → neonwrightref08_Listed.l0 k x (i : Int) = some (!(x.drop i).any (fun x => x != 0 && x != 1))
  | 0, _, _, h => by omega
  | k + 1, i, hi, hk => by
    unfold neonwrightref08_Listed.l0
    by_cases h : i < x.length
    · have e3 : wrap64 ((i : Int) + 1) = ((i + 1 : Nat) : Int) := by rw [w64 _ (by omega) (by omega)]; omega
      rw [if_pos (by omega), if_pos (by omega), e3, drop_rd x i h, List.any_cons, Listed_l0 x hx k (i + 1) (by omega) (by omega)]
      by_cases h0 : rd x (i : Int) = 0
      · rw [if_pos h0, h0]; rfl
      · rw [if_neg h0]
        by_cases h1 : rd x (i : Int) = 1
        · rw [if_pos h1, h1]; rfl
        · rw [if_neg h1]
          have e : (rd x (i : Int) != 0 && rd x (i : Int) != 1) = true := by simp [h0, h1]
          rw [e]; rfl
    · rw [if_neg (by omega), List.drop_eq_nil_of_le (by omega)]
      rfl
theorem Listed_eq (x : List Int) (hx : x.length ≤ 1000000000) (k : Nat) (hk : x.length < k) : neonwrightref08_Listed.f k x = some (binB x) := by
  unfold neonwrightref08_Listed.f binB
  have := Listed_l0 x hx k 0 (by omega) (by omega)
  by_cases h : x.length ≤ 200
  · rw [if_neg (by omega)]
    simp [h] at this ⊢
    simpa using this
  · rw [if_pos (by omega)]
    simp [h]
theorem binary_eq (x : List Int) : bus_binary.f x = some (binB x) := rfl

theorem same_l0 (x y : List Int) (hxy : x.length = y.length) (hx : x.length ≤ 1000000000) : ∀ (k i : Nat), i ≤ x.length → x.length - i < k → neonwrightlaw08_same.l0 k x y (i : Int) = some (decide (x.drop i = y.drop i))
  | 0, _, _, h => by omega
  | k + 1, i, hi, hk => by
    unfold neonwrightlaw08_same.l0
    by_cases h : i < x.length
    · have e3 : wrap64 ((i : Int) + 1) = ((i + 1 : Nat) : Int) := by rw [w64 _ (by omega) (by omega)]; omega
      rw [if_pos (by omega), if_pos (by omega), if_pos (by omega), e3, same_l0 x y hxy hx k (i + 1) (by omega) (by omega), drop_rd x i h, drop_rd y i (by omega)]
      by_cases h0 : rd x (i : Int) = rd y (i : Int)
      · rw [if_pos h0, h0]; simp
      · rw [if_neg h0]; simp [h0]
    · rw [if_neg (by omega), List.drop_eq_nil_of_le (by omega), List.drop_eq_nil_of_le (by omega)]
      simp
theorem same_eq (x y : List Int) (hx : x.length ≤ 1000000000) (k : Nat) (hk : x.length < k) : neonwrightlaw08_same.f k x y = some (decide (x = y)) := by
  unfold neonwrightlaw08_same.f
  by_cases h : x.length = y.length
  · rw [if_pos (by omega)]
    have := same_l0 x y h hx k 0 (by omega) (by omega)
    simpa using this
  · rw [if_neg (by omega)]
    have : x ≠ y := fun e => h (by rw [e])
    simp [this]
end Go.Proofs.YtbanemecfobonaaDoor.B
