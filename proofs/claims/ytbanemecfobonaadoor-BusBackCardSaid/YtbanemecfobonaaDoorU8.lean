/- Plain facts on the way there and back: the bits of a frame are short enough, never alike six times, and Read of them is the frame. -/
import Derived.Test.YtbanemecfobonaaDoorU2
import Derived.Test.YtbanemecfobonaaDoorU6
namespace Go.Proofs.YtbanemecfobonaaDoor.B
open Go.RowKit Go.Proofs.YtbanemecfobonaaDoorW.PrintWords Go.Proofs.YtbanemecfobonaaDoorW.PrintLast Go.Proofs.YtbanemecfobonaaDoorW.PrintMore
set_option linter.unusedVariables false
set_option linter.unusedSimpArgs false

theorem put1_cases (bit many b : Int) (h0 : 0 ≤ many) (h4 : many ≤ 4) : (put1 bit many b = (b, many + 1) ∧ 0 < many ∧ bit = b) ∨ (put1 bit many b = (b, 1) ∧ ¬ (0 < many ∧ bit = b)) := by
  unfold put1
  by_cases hm : many > 0
  · rw [if_pos hm]
    by_cases hb : bit = b
    · rw [if_pos hb, w64 _ (by omega) (by omega), hb]; exact .inl ⟨rfl, hm, rfl⟩
    · rw [if_neg hb]; exact .inr ⟨rfl, fun e => hb e.2⟩
  · rw [if_neg hm]; exact .inr ⟨rfl, fun e => hm e.1⟩
/-- One plain bit's output. -/
theorem stuffed_cons (b bit many : Int) (p : List Int) (hb : b = 0 ∨ b = 1) (h0 : 0 ≤ many) (h4 : many ≤ 4) :
    (many = 4 ∧ bit = b ∧ stuffed (b :: p) bit many = b :: (1 - b) :: stuffed p (1 - b) 1) ∨
    (∃ m' : Int, put1 bit many b = (b, m') ∧ 1 ≤ m' ∧ m' ≤ 4 ∧ (m' = many + 1 ∧ 0 < many ∧ bit = b ∨ m' = 1 ∧ ¬ (0 < many ∧ bit = b)) ∧ stuffed (b :: p) bit many = b :: stuffed p b m') := by
  have ew : wrap64 (1 - b) = 1 - b := w64 _ (by omega) (by omega)
  rcases put1_cases bit many b h0 h4 with ⟨hp, hm, hbb⟩ | ⟨hp, hn⟩
  · by_cases h5 : many = 4
    · refine .inl ⟨h5, hbb, ?_⟩
      have h2 : put1 b 5 (wrap64 (1 - b)) = (1 - b, 1) := by
        rw [ew]; unfold put1; rw [if_pos (by omega), if_neg (by omega)]
      rw [stuffed_five b bit many b (1 - b) 1 p (by rw [hp, h5]; rfl) h2, ew]
    · exact .inr ⟨many + 1, hp, by omega, by omega, .inl ⟨rfl, hm, hbb⟩, stuffed_else b bit many b (many + 1) p hp (by omega)⟩
  · exact .inr ⟨1, hp, by omega, by omega, .inr ⟨rfl, hn⟩, stuffed_else b bit many b 1 p hp (by decide)⟩
theorem stuffed_short : ∀ (p : List Int) (bit many : Int) (m : Nat), Bits01 p → many = (m : Int) → m ≤ 4 → (stuffed p bit many).length ≤ p.length + (p.length + m - 1) / 4
  | [], _, _, m, _, _, _ => by simp [stuffed]
  | b :: p, bit, many, m, hp, hm, h4 => by
    have hb := hp b List.mem_cons_self
    have hp' : Bits01 p := fun x hx => hp x (List.mem_cons_of_mem _ hx)
    rcases stuffed_cons b bit many p hb (by omega) (by omega) with ⟨h1, _, h3⟩ | ⟨m', _, h2, h3, h5, h6⟩
    · have ih := stuffed_short p (1 - b) 1 1 hp' rfl (by omega)
      rw [h3]
      simp only [List.length_cons]
      omega
    · have ih := stuffed_short p b m' m'.toNat hp' (by omega) (by omega)
      rw [h6]
      simp only [List.length_cons]
      rcases h5 with ⟨h7, _, _⟩ | ⟨h7, _⟩
      · omega
      · omega
theorem bitsS_short (no : Nat) (l : List Int) : (bitsS no l).length ≤ 47 + 8 * l.length + (33 + 8 * l.length) / 4 ∧ 13 ≤ (bitsS no l).length := by
  have h1 := stuffed_short (plainS no l) 0 0 0 (plainS_bit no l) rfl (by omega)
  have h2 := plainS_length no l
  simp only [bitsS, List.length_append, tailD_length]
  constructor
  · omega
  · omega

/-- How many bits come last alike when i are read. -/
def runAt (x : List Int) : Nat → Nat
  | 0 => 0
  | i + 1 => if 0 < i ∧ rd x (i : Int) = rd x ((i - 1 : Nat) : Int) then runAt x i + 1 else 1
/-- From a state on, no bit comes six times. -/
def calm : Int → Int → List Int → Prop
  | _, _, [] => True
  | bit, many, x :: t => (if 0 < many ∧ bit = x then many + 1 ≤ 5 ∧ calm x (many + 1) t else calm x 1 t)
theorem calm_stuffed : ∀ (p : List Int) (bit many : Int), Bits01 p → 0 ≤ many → many ≤ 4 → calm bit many (stuffed p bit many)
  | [], _, _, _, _, _ => by simp [stuffed, calm]
  | b :: p, bit, many, hp, h0, h4 => by
    have hb := hp b List.mem_cons_self
    have hp' : Bits01 p := fun x hx => hp x (List.mem_cons_of_mem _ hx)
    rcases stuffed_cons b bit many p hb h0 h4 with ⟨h1, h2, h3⟩ | ⟨m', _, h2, h3, h5, h6⟩
    · rw [h3, calm, if_pos ⟨by omega, h2⟩]
      refine ⟨by omega, ?_⟩
      rw [calm, if_neg (by omega)]
      exact calm_stuffed p (1 - b) 1 hp' (by omega) (by omega)
    · rw [h6, calm]
      rcases h5 with ⟨h7, h8, h9⟩ | ⟨h7, h8⟩
      · rw [if_pos ⟨h8, h9⟩, ← h7]
        exact ⟨by omega, calm_stuffed p b m' hp' (by omega) h3⟩
      · rw [if_neg h8, ← h7]
        exact calm_stuffed p b m' hp' (by omega) h3
theorem calm_run (x : List Int) : ∀ (t : List Int) (i : Nat) (bit : Int), x.drop i = t ++ x.drop (i + t.length) → (i = 0 ∨ 0 < i ∧ bit = rd x ((i - 1 : Nat) : Int)) → (i = 0 → runAt x i = 0) → calm bit (runAt x i : Int) t → i + t.length ≤ x.length → ∀ j, j ≤ t.length → runAt x i ≤ 5 → runAt x (i + j) ≤ 5
  | [], i, bit, _, _, _, _, _, j, hj, h5 => by
    obtain rfl : j = 0 := by simpa using hj
    exact h5
  | y :: t, i, bit, hd, hbit, hz, hc, hl, j, hj, h5 => by
    simp only [List.length_cons] at hl hj
    have hlt : i < x.length := by omega
    rw [drop_rd x i hlt] at hd
    simp only [List.cons_append, List.cons.injEq, List.length_cons] at hd
    obtain ⟨hy, hd⟩ := hd
    have e : i + (t.length + 1) = i + 1 + t.length := by omega
    rw [e] at hd
    cases j with
    | zero => exact h5
    | succ j =>
      have hnext : runAt x (i + 1) ≤ 5 ∧ calm y (runAt x (i + 1) : Int) t := by
        rw [calm] at hc
        by_cases hi : i = 0
        · have hr0 := hz hi
          rw [hr0, if_neg (by omega)] at hc
          have er : runAt x (i + 1) = 1 := by rw [runAt, if_neg (by omega)]
          rw [er]
          exact ⟨by omega, hc⟩
        · obtain ⟨_, hb⟩ := hbit.resolve_left hi
          by_cases he : rd x (i : Int) = rd x ((i - 1 : Nat) : Int)
          · have er : runAt x (i + 1) = runAt x i + 1 := by rw [runAt, if_pos ⟨by omega, he⟩]
            have hpos : 1 ≤ runAt x i := by
              obtain ⟨q, rfl⟩ : ∃ q, i = q + 1 := ⟨i - 1, by omega⟩
              rw [runAt]; split <;> omega
            rw [if_pos ⟨by omega, by rw [hb, ← hy, he]⟩] at hc
            rw [er]
            exact ⟨by omega, by have := hc.2; rwa [show ((runAt x i : Int) + 1) = ((runAt x i + 1 : Nat) : Int) by omega] at this⟩
          · have er : runAt x (i + 1) = 1 := by rw [runAt, if_neg (fun e => he e.2)]
            rw [if_neg (fun e2 => he (by rw [hy, ← e2.2, hb]))] at hc
            rw [er]
            exact ⟨by omega, hc⟩
      have := calm_run x t (i + 1) y hd (.inr ⟨by omega, by rw [← hy]; congr 1⟩) (by omega) hnext.2 (by omega) j (by omega) hnext.1
      have e2 : i + (j + 1) = i + 1 + j := by omega
      rw [e2]
      exact this
/-- Up to the last bit of the check no bit comes six times. -/
theorem bits_calm (no : Nat) (l : List Int) (i : Nat) (hi : i ≤ (bitsS no l).length - 13) : runAt (bitsS no l) i ≤ 5 := by
  have h1 := calm_stuffed (plainS no l) 0 0 (plainS_bit no l) (by omega) (by omega)
  have hlen : (bitsS no l).length = (stuffed (plainS no l) 0 0).length + 13 := by simp [bitsS, tailD_length]
  have h2 := calm_run (bitsS no l) (stuffed (plainS no l) 0 0) 0 0 (by simp [bitsS]) (.inl rfl) (fun _ => rfl) h1 (by omega) i (by omega) (Nat.zero_le 5)
  rw [Nat.zero_add] at h2
  exact h2

theorem numF_wr (n : Nat) : ∀ (m c : Nat), numF c (wrN n m) = c * 2 ^ m + n % 2 ^ m
  | 0, c => by simp [numF, wrN, Nat.mod_one]
  | m + 1, c => by
    have h := numF_wr n m (2 * c + n / 2 ^ m % 2)
    have e : numF c (wrN n (m + 1)) = numF (2 * c + (((n / 2 ^ m % 2 : Nat) : Int)).toNat) (wrN n m) := rfl
    rw [e, Int.toNat_natCast, h, Nat.pow_succ, Nat.mod_mul]
    generalize n / 2 ^ m % 2 = q
    generalize n % 2 ^ m = s
    generalize 2 ^ m = t
    rw [Nat.add_mul, Nat.mul_assoc, Nat.mul_comm 2 (c * t), Nat.mul_assoc, Nat.mul_comm q t]
    omega
theorem num_wr (n m : Nat) (h : n < 2 ^ m) : num (wrN n m) = n := by
  have := numF_wr n m 0
  rw [Nat.mod_eq_of_lt h] at this
  unfold num
  omega
theorem drop_app (S T : List Int) (n : Nat) (h : S.length = n) : (S ++ T).drop n = T := by rw [← h, List.drop_left]
theorem take_app (S T : List Int) (n : Nat) (h : S.length = n) : (S ++ T).take n = S := by rw [← h, List.take_left]
/-- The plain bits, part by part. -/
theorem plain_parts (no : Nat) (l : List Int) : plainS no l = [0] ++ (wrN no 11 ++ ([0, 0, 0] ++ (wrN l.length 4 ++ (dataS l ++ wrN (chk (headS no l)) 15)))) := by
  simp [plainS, headS]
theorem plain_no (no : Nat) (l : List Int) (h : no < 2048) : num (((plainS no l).drop 1).take 11) = no := by
  rw [plain_parts, drop_app [0] _ 1 rfl, take_app (wrN no 11) _ 11 (wrN_length _ _), num_wr no 11 h]
theorem plain_nb (no : Nat) (l : List Int) (h : l.length ≤ 8) : nbS (plainS no l) = l.length := by
  have e : (plainS no l).drop 15 = wrN l.length 4 ++ (dataS l ++ wrN (chk (headS no l)) 15) := by
    have e1 : plainS no l = ([0] ++ (wrN no 11 ++ [0, 0, 0])) ++ (wrN l.length 4 ++ (dataS l ++ wrN (chk (headS no l)) 15)) := by rw [plain_parts]; simp
    rw [e1, drop_app _ _ 15 (by simp [wrN_length])]
  rw [nbS, e, take_app (wrN l.length 4) _ 4 (wrN_length _ _), num_wr l.length 4 (by omega)]
theorem data_drop : ∀ (l : List Int) (i : Nat) (R : List Int), i < l.length → ((dataS l ++ R).drop (8 * i)).take 8 = wrN (rd l (i : Int)).toNat 8
  | [], i, R, h => by simp at h
  | b :: l, 0, R, h => by
    rw [dataS_cons]
    show ((wrN b.toNat 8 ++ dataS l ++ R).drop 0).take 8 = wrN b.toNat 8
    rw [List.drop_zero, List.append_assoc, take_app _ _ 8 (wrN_length _ _)]
  | b :: l, i + 1, R, h => by
    have h1 := data_drop l i R (by simpa using h)
    have e : 8 * (i + 1) = 8 + 8 * i := by omega
    rw [dataS_cons, List.append_assoc, e, ← List.drop_drop, drop_app (wrN b.toNat 8) _ 8 (wrN_length _ _), h1]
    rfl
theorem plain_bytes (no : Nat) (l : List Int) (hb : bytesB l = true) : ∀ (m i : Nat), l.length - i = m → i ≤ l.length → bytesFrom (plainS no l) i m = l.drop i
  | 0, i, hm, hi => by
    rw [List.drop_eq_nil_of_le (by omega)]
    rfl
  | m + 1, i, hm, hi => by
    have e1 : plainS no l = ([0] ++ (wrN no 11 ++ ([0, 0, 0] ++ wrN l.length 4))) ++ (dataS l ++ wrN (chk (headS no l)) 15) := by rw [plain_parts]; simp
    have e2 : (plainS no l).drop (19 + 8 * i) = (dataS l ++ wrN (chk (headS no l)) 15).drop (8 * i) := by
      rw [e1, ← List.drop_drop, drop_app _ _ 19 (by simp [wrN_length])]
    obtain ⟨h0, h1⟩ := byte_of l hb i (by omega)
    rw [bytesFrom, e2, data_drop l i _ (by omega), num_wr _ 8 (by omega), plain_bytes no l hb m (i + 1) (by omega) (by omega), drop_rd l i (by omega)]
    congr 1
    omega
end Go.Proofs.YtbanemecfobonaaDoor.B
