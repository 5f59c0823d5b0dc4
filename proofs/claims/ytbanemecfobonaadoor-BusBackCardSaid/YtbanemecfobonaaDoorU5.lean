/- Plain facts on reading: numbers in bits, how many bytes, the bit that is due. -/
import Derived.Test.YtbanemecfobonaaDoorU1
import Derived.Test.YtbanemecfobonaaDoorBC
namespace Go.Proofs.YtbanemecfobonaaDoor.B
open Go.RowKit Go.Proofs.YtbanemecfobonaaDoorW.PrintWords Go.Proofs.YtbanemecfobonaaDoorW.PrintLast Go.Proofs.YtbanemecfobonaaDoorW.PrintMore
set_option linter.unusedVariables false
set_option linter.unusedSimpArgs false

/-- Are these bits? -/
def Bits01 (l : List Int) : Prop := ∀ x ∈ l, x = 0 ∨ x = 1
theorem Bits01.at_ {l : List Int} (h : Bits01 l) (i : Nat) (hi : i < l.length) : rd l (i : Int) = 0 ∨ rd l (i : Int) = 1 := by
  have e : rd l (i : Int) = l[i] := by
    show l.getD i 0 = _
    rw [List.getD_eq_getElem?_getD, List.getElem?_eq_getElem hi]; rfl
  rw [e]
  exact h _ (List.getElem_mem hi)
theorem Bits01.take {l : List Int} (h : Bits01 l) (n : Nat) : Bits01 (l.take n) := fun x hx => h x (List.mem_of_mem_take hx)
theorem Bits01.drop {l : List Int} (h : Bits01 l) (n : Nat) : Bits01 (l.drop n) := fun x hx => h x (List.mem_of_mem_drop hx)
theorem Bits01.add {l : List Int} (h : Bits01 l) (b : Int) (hb : b = 0 ∨ b = 1) : Bits01 (l ++ [b]) := fun x hx => by
  rw [List.mem_append] at hx
  rcases hx with hx | hx
  · exact h x hx
  · simp only [List.mem_cons, List.not_mem_nil, or_false] at hx
    rw [hx]; exact hb
/-- Bits as a number, behind a first part. -/
def numF (c : Nat) (l : List Int) : Nat := l.foldl (fun n b => 2 * n + b.toNat) c
def num (l : List Int) : Nat := numF 0 l
theorem numF_lt (l : List Int) (h : Bits01 l) : ∀ (c i : Nat), c < 2 ^ i → numF c l < 2 ^ (i + l.length) := by
  induction l with
  | nil => intro c i hc; simpa [numF] using hc
  | cons b l ih =>
    intro c i hc
    have hb : b.toNat ≤ 1 := by rcases h b List.mem_cons_self with e | e <;> rw [e] <;> decide
    have hl : Bits01 l := fun x hx => h x (List.mem_cons_of_mem _ hx)
    have := ih hl (2 * c + b.toNat) (i + 1) (by rw [Nat.pow_succ]; omega)
    have e : i + (b :: l).length = i + 1 + l.length := by simp; omega
    rw [e]
    exact this
theorem num_lt (l : List Int) (h : Bits01 l) (m : Nat) (hm : l.length ≤ m) : num l < 2 ^ m := by
  have h1 := numF_lt l h 0 0 (by decide)
  have h2 : 2 ^ (0 + l.length) ≤ 2 ^ m := Nat.pow_le_pow_right (by decide) (by omega)
  unfold num
  omega
theorem pow40 (i : Nat) (h : i ≤ 40) : 2 ^ i ≤ 1099511627776 := by
  have : 2 ^ i ≤ 2 ^ 40 := Nat.pow_le_pow_right (by decide) h
  simpa using this
theorem bus_number_l0 (x : List Int) (hb : Bits01 x) (hx : x.length ≤ 40) : ∀ (k i c : Nat), i ≤ x.length → x.length - i < k → c < 2 ^ i → bus_number.l0 k (c : Int) x (x.length : Int) (i : Int) = some ((numF c (x.drop i) : Nat) : Int)
  | 0, _, _, _, h, _ => by omega
  | k + 1, i, c, hi, hk, hc => by
    unfold bus_number.l0
    by_cases h : i < x.length
    · have h40 := pow40 i (by omega)
      have hr := hb.at_ i h
      have e3 : wrap64 ((i : Int) + 1) = ((i + 1 : Nat) : Int) := by rw [w64 _ (by omega) (by omega)]; omega
      have e1 : wrap64 (wrap64 (2 * (c : Int)) + rd x (i : Int)) = ((2 * c + (rd x (i : Int)).toNat : Nat) : Int) := by
        rw [w64 (2 * (c : Int)) (by omega) (by omega), w64 _ (by omega) (by omega)]; omega
      rw [if_pos (by omega), if_pos (by omega), if_pos (by omega), e1, e3, drop_rd x i h]
      exact bus_number_l0 x hb hx k (i + 1) _ (by omega) (by omega) (by rw [Nat.pow_succ]; omega)
    · rw [if_neg (by omega), List.drop_eq_nil_of_le (by omega)]
      rfl
theorem bus_number_eq (x : List Int) (hb : Bits01 x) (hx : x.length ≤ 40) (k : Nat) (hk : x.length < k) : bus_number.f k x = some ((num x : Nat) : Int) := by
  have := bus_number_l0 x hb hx k 0 0 (by omega) (by omega) (by decide)
  simpa [bus_number.f, num] using this
theorem rd_sub (x : List Int) (a m i : Nat) (h : a + m ≤ x.length) (hi : i < m) : rd ((x.drop a).take m) (i : Int) = rd x ((a + i : Nat) : Int) := by
  show ((x.drop a).take m).getD i 0 = x.getD (a + i) 0
  rw [List.getD_eq_getElem?_getD, List.getD_eq_getElem?_getD, List.getElem?_take_of_lt hi, List.getElem?_drop]
theorem nAdd (a i : Nat) (h : a + i ≤ 1000000000) : wrap64 ((a : Int) + (i : Int)) = ((a + i : Nat) : Int) := by rw [w64 _ (by omega) (by omega)]; omega
theorem nNext (i : Nat) (h : i ≤ 1000000000) : wrap64 ((i : Int) + 1) = ((i + 1 : Nat) : Int) := by rw [w64 _ (by omega) (by omega)]; omega
theorem nTwice (c : Nat) (z : Int) (h : c ≤ 1099511627776) (hz : z = 0 ∨ z = 1) : wrap64 (wrap64 (2 * (c : Int)) + z) = ((2 * c + z.toNat : Nat) : Int) := by
  rw [w64 (2 * (c : Int)) (by omega) (by omega), w64 _ (by omega) (by omega)]; omega
/-- How many bytes a frame has that begins with bits. -/
def nbS (got : List Int) : Nat := num ((got.drop 15).take 4)
theorem nbS_lt (got : List Int) (hb : Bits01 got) : nbS got < 16 := num_lt _ ((hb.drop 15).take 4) 4 (by simp; omega)
theorem bytesOf_eq (got : List Int) (hb : Bits01 got) (k : Nat) (hk : 5 ≤ k) : bus_bytesOf.f k got = some (if got.length < 19 then 9 else ((nbS got : Nat) : Int)) := by
  unfold bus_bytesOf.f
  by_cases h : got.length < 19
  · rw [if_pos (by omega), if_pos h]
  · have e : (got.take 19).drop 15 = (got.drop 15).take 4 := by rw [List.drop_take]
    rw [if_neg (by omega), if_pos (by omega), if_neg h, e, bus_number_eq _ ((hb.drop 15).take 4) (by simp; omega) k (by simp; omega)]
    rfl
/-- Must another plain bit come? -/
def goesOn (got : List Int) : Prop := got.length < 19 ∨ got.length < 34 + 8 * nbS got
instance (got : List Int) : Decidable (goesOn got) := inferInstanceAs (Decidable (_ ∨ _))
/-- The bit that is due, or -1. -/
def dueC (got : List Int) : Int := ((chk (got.take (19 + 8 * nbS got)) / 2 ^ (14 - (got.length - (19 + 8 * nbS got))) % 2 : Nat) : Int)
def dueS (got : List Int) : Int :=
  if got.length = 0 ∨ (12 ≤ got.length ∧ got.length < 15) then 0
  else if 15 < got.length ∧ got.length < 19 ∧ rd got 15 = 1 then 0
  else if 19 ≤ got.length ∧ 19 + 8 * nbS got ≤ got.length then dueC got else -1
theorem dueC_bit (got : List Int) : dueC got = 0 ∨ dueC got = 1 := by
  unfold dueC
  generalize chk (got.take (19 + 8 * nbS got)) / 2 ^ (14 - (got.length - (19 + 8 * nbS got))) = q
  omega
theorem bit_nat (c n : Nat) (hc : c < 32768) (hn : n < 64) : Go.bits .and .i64 (shr .i64 (c : Int) (n : Int)) 1 = ((c / 2 ^ n % 2 : Nat) : Int) ∧ Int.tmod (shr .i64 (c : Int) (n : Int)) 2 = ((c / 2 ^ n % 2 : Nat) : Int) := by
  have e0 : shr .i64 (c : Int) (n : Int) = ((c / 2 ^ n : Nat) : Int) := by
    show (c : Int) / 2 ^ min ((n : Int)).toNat 64 = _
    rw [Int.toNat_natCast, Nat.min_eq_left (by omega), Int.natCast_ediv, Int.natCast_pow]
    rfl
  have hle : c / 2 ^ n ≤ c := Nat.div_le_self _ _
  rw [e0]
  generalize c / 2 ^ n = q at hle
  constructor
  · show IntKind.i64.wrap ((BitVec.ofInt 64 (q : Int) &&& BitVec.ofInt 64 ((1 : Nat) : Int)).toNat : Int) = _
    have e1 : (BitVec.ofInt 64 (q : Int)).toNat = q := by rw [BitVec.ofInt_natCast, BitVec.toNat_ofNat]; exact Nat.mod_eq_of_lt (by omega)
    have e2 : (BitVec.ofInt 64 ((1 : Nat) : Int)).toNat = 2 ^ 1 - 1 := by rw [BitVec.ofInt_natCast, BitVec.toNat_ofNat]
    rw [BitVec.toNat_and, e1, e2, Nat.and_two_pow_sub_one_eq_mod]
    simp [IntKind.wrap, IntKind.bits, IntKind.signed]
    omega
  · rw [Int.tmod_eq_emod_of_nonneg (by omega)]; omega

theorem due_j1_few (got : List Int) (hb : Bits01 got) (h : got.length < 19) (k : Nat) (hk : 250 ≤ k) : bus_due.j1 (k + 1) got (got.length : Int) false = some (-1) := by
  have eB : bus_bytesOf.f k got = some 9 := by rw [bytesOf_eq got hb k (by omega), if_pos h]
  have e9 : wrap64 (19 + wrap64 (8 * 9)) = 91 := by unfold wrap64; omega
  have c1 : ¬ ((got.length : Int) ≥ 91) := by omega
  rw [bus_due.j1, if_neg (by simp), eB, Option.bind_some, e9, if_neg c1]
theorem due_j1_many (got : List Int) (hb : Bits01 got) (hl : got.length ≤ 200) (h : ¬ got.length < 19) (h2 : 19 + 8 * nbS got ≤ got.length) (hg2 : got.length < 34 + 8 * nbS got) (k : Nat) (hk : 250 ≤ k) : bus_due.j1 (k + 1) got (got.length : Int) false = some (dueC got) := by
  have hn := nbS_lt got hb
  have hT : (got.take (19 + 8 * nbS got)).length ≤ 200 := by rw [List.length_take]; omega
  have eB : bus_bytesOf.f k got = some ((nbS got : Nat) : Int) := by rw [bytesOf_eq got hb k (by omega), if_neg h]
  have eC := bus_check_eq (got.take (19 + 8 * nbS got)) (by omega) k (by omega)
  have eD := (bit_nat (chk (got.take (19 + 8 * nbS got))) (14 - (got.length - (19 + 8 * nbS got))) (chk_lt _) (by omega)).1
  rw [bus_due.j1, if_neg (by simp), eB]
  unfold dueC
  generalize chk (got.take (19 + 8 * nbS got)) = c at eC eD
  generalize nbS got = nb at *
  have e1 : wrap64 (19 + wrap64 (8 * ((nb : Nat) : Int))) = ((19 + 8 * nb : Nat) : Int) := by
    rw [w64 (8 * ((nb : Nat) : Int)) (by omega) (by omega), w64 _ (by omega) (by omega)]; omega
  have e2 : wrap64 (14 - wrap64 (wrap64 ((got.length : Int) - 19) - wrap64 (8 * ((nb : Nat) : Int)))) = ((14 - (got.length - (19 + 8 * nb)) : Nat) : Int) := by
    rw [w64 (8 * ((nb : Nat) : Int)) (by omega) (by omega), w64 ((got.length : Int) - 19) (by omega) (by omega), w64 ((got.length : Int) - 19 - 8 * ((nb : Nat) : Int)) (by omega) (by omega), w64 _ (by omega) (by omega)]; omega
  have c1 : (got.length : Int) ≥ ((19 + 8 * nb : Nat) : Int) := by omega
  have c2 : (0 : Int) ≤ ((19 + 8 * nb : Nat) : Int) := by omega
  have c3 : ((19 + 8 * nb : Nat) : Int) ≤ (got.length : Int) := by omega
  have c4 : (0 : Int) ≤ ((14 - (got.length - (19 + 8 * nb)) : Nat) : Int) := by omega
  rw [Option.bind_some, e1, if_pos c1, Option.bind_some, e1, if_pos c2, if_pos c3, Int.toNat_natCast, eC, Option.bind_some, Option.bind_some, e2, if_pos c4, eD]
theorem due_j1_less (got : List Int) (hb : Bits01 got) (hl : got.length ≤ 200) (h : ¬ got.length < 19) (h2 : ¬ 19 + 8 * nbS got ≤ got.length) (k : Nat) (hk : 250 ≤ k) : bus_due.j1 (k + 1) got (got.length : Int) false = some (-1) := by
  have hn := nbS_lt got hb
  have eB : bus_bytesOf.f k got = some ((nbS got : Nat) : Int) := by rw [bytesOf_eq got hb k (by omega), if_neg h]
  rw [bus_due.j1, if_neg (by simp), eB]
  generalize nbS got = nb at *
  have e1 : wrap64 (19 + wrap64 (8 * ((nb : Nat) : Int))) = ((19 + 8 * nb : Nat) : Int) := by
    rw [w64 (8 * ((nb : Nat) : Int)) (by omega) (by omega), w64 _ (by omega) (by omega)]; omega
  have c1 : ¬ (got.length : Int) ≥ ((19 + 8 * nb : Nat) : Int) := by omega
  rw [Option.bind_some, e1, if_neg c1]
theorem due_j1_false (got : List Int) (hb : Bits01 got) (hl : got.length ≤ 200) (hg : goesOn got) (k : Nat) (hk : 250 ≤ k) : bus_due.j1 (k + 1) got (got.length : Int) false = some (if 19 ≤ got.length ∧ 19 + 8 * nbS got ≤ got.length then dueC got else -1) := by
  by_cases h : got.length < 19
  · rw [due_j1_few got hb h k hk, if_neg (fun e => by omega)]
  · by_cases h2 : 19 + 8 * nbS got ≤ got.length
    · have hg2 : got.length < 34 + 8 * nbS got := by
        rcases hg with h3 | h3
        · omega
        · exact h3
      rw [due_j1_many got hb hl h h2 hg2 k hk, if_pos ⟨by omega, h2⟩]
    · rw [due_j1_less got hb hl h h2 k hk, if_neg (fun e => h2 e.2)]
theorem due_eq (got : List Int) (hb : Bits01 got) (hl : got.length ≤ 200) (hg : goesOn got) (k : Nat) (hk : 260 ≤ k) : bus_due.f k got = some (dueS got) := by
  obtain ⟨k, rfl⟩ : ∃ j, k = j + 3 := ⟨k - 3, by omega⟩
  unfold bus_due.f dueS
  have hj1 : bus_due.j1 (k + 2) got (got.length : Int) false = some (if 19 ≤ got.length ∧ 19 + 8 * nbS got ≤ got.length then dueC got else -1) := due_j1_false got hb hl hg (k + 1) (by omega)
  by_cases h0 : got.length = 0
  · rw [if_pos (by omega), bus_due.j0, if_pos rfl, if_pos (.inl h0)]
  · rw [if_neg (by omega)]
    by_cases h1 : 12 ≤ got.length ∧ got.length < 15
    · rw [if_pos (by omega), decide_eq_true (by omega), bus_due.j0, if_pos rfl, if_pos (.inr h1)]
    · have hR : ¬ (got.length = 0 ∨ (12 ≤ got.length ∧ got.length < 15)) := by omega
      rw [if_neg hR]
      have hj0 : (if (got.length : Int) ≥ 12 then bus_due.j0 (k + 3) got (got.length : Int) (decide ((got.length : Int) < 15)) else bus_due.j0 (k + 3) got (got.length : Int) false) = bus_due.j0 (k + 3) got (got.length : Int) false := by
        by_cases h2 : (got.length : Int) ≥ 12
        · rw [if_pos h2, decide_eq_false (by omega)]
        · rw [if_neg h2]
      rw [hj0, bus_due.j0, if_neg (by simp)]
      by_cases h3 : 15 < got.length
      · rw [if_pos (by omega)]
        by_cases h4 : got.length < 19
        · rw [if_pos (by omega), if_pos (by omega)]
          by_cases h5 : rd got 15 = 1
          · have e : (rd got 15 == 1) = true := by rw [h5]; rfl
            rw [e, bus_due.j1, if_pos rfl, if_pos ⟨h3, h4, h5⟩]
          · have e : (rd got 15 == 1) = false := by simpa using h5
            have hR2 : ¬ (15 < got.length ∧ got.length < 19 ∧ rd got 15 = 1) := fun h => h5 h.2.2
            rw [e, hj1, if_neg hR2]
        · have hR2 : ¬ (15 < got.length ∧ got.length < 19 ∧ rd got 15 = 1) := fun h => h4 h.2.1
          rw [if_neg (by omega), hj1, if_neg hR2]
      · have hR2 : ¬ (15 < got.length ∧ got.length < 19 ∧ rd got 15 = 1) := fun h => h3 h.1
        rw [if_neg (by omega), hj1, if_neg hR2]
end Go.Proofs.YtbanemecfobonaaDoor.B
