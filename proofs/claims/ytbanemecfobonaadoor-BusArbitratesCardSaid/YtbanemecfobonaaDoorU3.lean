/- Plain facts on arbitration: bits of two frames part at the first bit in which their numbers differ; Wins, plainly. -/
import Derived.Test.YtbanemecfobonaaDoorU2
import Derived.Test.YtbanemecfobonaaDoorXM1
namespace Go.Proofs.YtbanemecfobonaaDoor.B
open Go.RowKit Go.Proofs.YtbanemecfobonaaDoorW.PrintWords Go.Proofs.YtbanemecfobonaaDoorW.PrintLast Go.Proofs.YtbanemecfobonaaDoorW.PrintMore
set_option linter.unusedVariables false
set_option linter.unusedSimpArgs false

/-- From some number of rounds on, a loop answers r. -/
def Ev {α : Type} (f : Nat → Option α) (r : Option α) : Prop := ∃ K, ∀ k, K ≤ k → f k = r
theorem Ev.succ {α : Type} {f g : Nat → Option α} {r : Option α} (h : Ev g r) (K0 : Nat) (hs : ∀ k, K0 ≤ k → f (k + 1) = g k) : Ev f r := by
  obtain ⟨K, hK⟩ := h
  refine ⟨max K K0 + 1, fun k hk => ?_⟩
  obtain ⟨j, rfl⟩ : ∃ j, k = j + 1 := ⟨k - 1, by omega⟩
  rw [hs j (by omega), hK j (by omega)]
theorem Ev.now {α : Type} {f : Nat → Option α} {r : Option α} (K0 : Nat) (hs : ∀ k, K0 ≤ k → f (k + 1) = r) : Ev f r :=
  ⟨K0 + 1, fun k hk => by obtain ⟨j, rfl⟩ : ∃ j, k = j + 1 := ⟨k - 1, by omega⟩; exact hs j (by omega)⟩

/-- The state of the stuffing behind some bits. -/
def stAt : List Int → Int → Int → Int × Int
  | [], bit, many => (bit, many)
  | b :: l, bit, many =>
    if (put1 bit many b).2 = 5 then stAt l (put1 (put1 bit many b).1 (put1 bit many b).2 (wrap64 (1 - b))).1 (put1 (put1 bit many b).1 (put1 bit many b).2 (wrap64 (1 - b))).2
    else stAt l (put1 bit many b).1 (put1 bit many b).2
theorem stuffed_append (p r : List Int) : ∀ (bit many : Int), stuffed (p ++ r) bit many = stuffed p bit many ++ stuffed r (stAt p bit many).1 (stAt p bit many).2 := by
  induction p with
  | nil => intro bit many; simp [stuffed, stAt]
  | cons b p ih =>
    intro bit many
    rw [List.cons_append, stuffed, stuffed, stAt]
    split
    · rw [ih]; rfl
    · rw [ih]; rfl
theorem stuffed_head (x : Int) (r : List Int) (bit many : Int) : ∃ t, stuffed (x :: r) bit many = x :: t := by
  rw [stuffed]
  split
  · exact ⟨_, rfl⟩
  · exact ⟨_, rfl⟩
theorem wrN_part : ∀ (m a b : Nat), a % 2 ^ m < b % 2 ^ m → ∃ p ra rb, wrN a m = p ++ 0 :: ra ∧ wrN b m = p ++ 1 :: rb
  | 0, a, b, h => by simp [Nat.mod_one] at h
  | m + 1, a, b, h => by
    have ha : a % 2 ^ (m + 1) = a / 2 ^ m % 2 * 2 ^ m + a % 2 ^ m := by
      rw [Nat.pow_succ, Nat.mod_mul]; rw [Nat.mul_comm]; omega
    have hb : b % 2 ^ (m + 1) = b / 2 ^ m % 2 * 2 ^ m + b % 2 ^ m := by
      rw [Nat.pow_succ, Nat.mod_mul]; rw [Nat.mul_comm]; omega
    have hpa := Nat.mod_lt a (Nat.two_pow_pos m)
    have hpb := Nat.mod_lt b (Nat.two_pow_pos m)
    rw [ha, hb] at h
    rcases Nat.mod_two_eq_zero_or_one (a / 2 ^ m) with ea | ea <;> rcases Nat.mod_two_eq_zero_or_one (b / 2 ^ m) with eb | eb
    · rw [ea, eb] at h
      obtain ⟨p, ra, rb, h1, h2⟩ := wrN_part m a b (by omega)
      exact ⟨0 :: p, ra, rb, by rw [wrN, ea, h1]; rfl, by rw [wrN, eb, h2]; rfl⟩
    · exact ⟨[], wrN a m, wrN b m, by rw [wrN, ea]; rfl, by rw [wrN, eb]; rfl⟩
    · rw [ea, eb] at h
      omega
    · rw [ea, eb] at h
      obtain ⟨p, ra, rb, h1, h2⟩ := wrN_part m a b (by omega)
      exact ⟨1 :: p, ra, rb, by rw [wrN, ea, h1]; rfl, by rw [wrN, eb, h2]; rfl⟩
theorem bits_part (a b : Nat) (la lb : List Int) (hab : a < b) (hb : b < 2048) : ∃ S ta tb, bitsS a la = S ++ 0 :: ta ∧ bitsS b lb = S ++ 1 :: tb := by
  obtain ⟨p, ra, rb, h1, h2⟩ := wrN_part 11 a b (by rw [Nat.mod_eq_of_lt (by omega), Nat.mod_eq_of_lt (by omega)]; exact hab)
  have e1 : ∃ r, plainS a la = (0 :: p) ++ 0 :: r := ⟨ra ++ (0 :: 0 :: 0 :: (wrN la.length 4 ++ dataS la)) ++ wrN (chk (headS a la)) 15, by simp [plainS, headS, h1]⟩
  have e2 : ∃ r, plainS b lb = (0 :: p) ++ 1 :: r := ⟨rb ++ (0 :: 0 :: 0 :: (wrN lb.length 4 ++ dataS lb)) ++ wrN (chk (headS b lb)) 15, by simp [plainS, headS, h2]⟩
  obtain ⟨r1, e1⟩ := e1
  obtain ⟨r2, e2⟩ := e2
  obtain ⟨t1, ht1⟩ := stuffed_head 0 r1 (stAt (0 :: p) 0 0).1 (stAt (0 :: p) 0 0).2
  obtain ⟨t2, ht2⟩ := stuffed_head 1 r2 (stAt (0 :: p) 0 0).1 (stAt (0 :: p) 0 0).2
  refine ⟨stuffed (0 :: p) 0 0, t1 ++ tailD, t2 ++ tailD, ?_, ?_⟩
  · rw [bitsS, e1, stuffed_append, ht1]; simp
  · rw [bitsS, e2, stuffed_append, ht2]; simp

/-- The bits of frame i. -/
def bitsAt (l : List S24) (i : Nat) : List Int := bitsS (noAt l i).toNat (l.getD i z24).f1
/-- Frame w wins: every other one goes on like it for d i bits, and then has a 1 where w has a 0. -/
structure Arb (n : Nat) (Bt : Nat → List Int) (w : Nat) (d : Nat → Nat) : Prop where
  lt : w < n
  like : ∀ i, i < n → i ≠ w → ∀ j, j < d i → rd (Bt i) (j : Int) = rd (Bt w) (j : Int)
  one : ∀ i, i < n → i ≠ w → rd (Bt i) (d i : Int) = 1
  zero : ∀ i, i < n → i ≠ w → rd (Bt w) (d i : Int) = 0
  lenI : ∀ i, i < n → i ≠ w → d i < (Bt i).length
  lenW : ∀ i, i < n → i ≠ w → d i < (Bt w).length
/-- The most bits. -/
def mostD (w : Nat) (d : Nat → Nat) : Nat → Nat
  | 0 => 0
  | i + 1 => if i = w then mostD w d i else max (mostD w d i) (d i + 1)
theorem rd_append_left (S t : List Int) (j : Nat) (h : j < S.length) : rd (S ++ t) (j : Int) = rd S (j : Int) := by
  show (S ++ t).getD _ 0 = S.getD _ 0
  rw [List.getD_eq_getElem?_getD, List.getD_eq_getElem?_getD, Int.toNat_natCast, List.getElem?_append_left h]
theorem rd_append_mid (S t : List Int) (x : Int) : rd (S ++ x :: t) (S.length : Int) = x := by
  show (S ++ x :: t).getD _ 0 = x
  rw [List.getD_eq_getElem?_getD, Int.toNat_natCast, List.getElem?_append_right (Nat.le_refl _)]
  simp
theorem bestOf_min (l : List S24) : ∀ (k : Nat), ∀ i, i < k → noAt l (bestOf l k) ≤ noAt l i
  | 0, i, h => by omega
  | k + 1, i, h => by
    rw [bestOf]
    rcases Nat.lt_or_ge i k with h1 | h1
    · have := bestOf_min l k i h1
      split
      · omega
      · exact this
    · obtain rfl : i = k := by omega
      split
      · omega
      · omega
theorem mem_nosOf (l : List S24) : ∀ (k i : Nat), i < k → noAt l i ∈ nosOf l k
  | 0, i, h => by omega
  | k + 1, i, h => by
    rw [nosOf]
    rcases Nat.lt_or_ge i k with h1 | h1
    · exact List.mem_cons_of_mem _ (mem_nosOf l k i h1)
    · obtain rfl : i = k := by omega
      exact List.mem_cons_self
theorem noDup (l : List S24) : ∀ (n : Nat), dupOf l n = false → ∀ i j, i < j → j < n → noAt l i ≠ noAt l j
  | 0, _, i, j, _, h => by omega
  | n + 1, hd, i, j, hij, hj => by
    rw [dupOf] at hd
    simp only [Bool.or_eq_false_iff] at hd
    rcases Nat.lt_or_ge j n with h1 | h1
    · exact noDup l n hd.1 i j hij h1
    · obtain rfl : j = n := by omega
      intro e
      have hm := mem_nosOf l j i hij
      rw [e] at hm
      have := List.contains_iff_mem.mpr hm
      rw [hd.2] at this
      cases this
/-- What the numbers of valid frames say. -/
theorem valid_no (l : List S24) (h : l.any nvB = false) (i : Nat) (hi : i < l.length) : 0 ≤ noAt l i ∧ noAt l i ≤ 2047 ∧ vB ⟨noAt l i, (l.getD i z24).f1⟩ = true := by
  have hv : nvB (l[i]) = false := by
    have := List.any_eq_false.1 h l[i] (List.getElem_mem hi)
    simpa using this
  have e : l.getD i z24 = l[i] := by rw [List.getD_eq_getElem?_getD, List.getElem?_eq_getElem hi]; rfl
  have hb : vB ⟨noAt l i, (l.getD i z24).f1⟩ = true := by
    have : nvB (l.getD i z24) = false := by rw [e]; exact hv
    simpa [nvB, noAt] using this
  obtain ⟨h1, h2, _, _⟩ := vB_parts _ _ hb
  exact ⟨h1, h2, hb⟩
theorem arb_of (l : List S24) (hn : 0 < l.length) (hv : l.any nvB = false) (hd : dupOf l l.length = false) : ∃ d, Arb l.length (bitsAt l) (bestOf l l.length) d := by
  have hw := bestOf_lt l l.length hn (Nat.le_refl _)
  generalize hwe : bestOf l l.length = w at hw
  have each : ∀ i, ∃ d, i < l.length → i ≠ w → ∃ S ta tb, d = S.length ∧ bitsAt l w = S ++ 0 :: ta ∧ bitsAt l i = S ++ 1 :: tb := by
    intro i
    by_cases hi : i < l.length ∧ i ≠ w
    · obtain ⟨hi1, hi2⟩ := hi
      have h1 := bestOf_min l l.length i hi1
      rw [hwe] at h1
      have h2 : noAt l w ≠ noAt l i := by
        rcases Nat.lt_or_ge w i with h | h
        · exact noDup l l.length hd w i h hi1
        · exact fun e => noDup l l.length hd i w (by omega) hw e.symm
      obtain ⟨a1, a2, _⟩ := valid_no l hv w hw
      obtain ⟨b1, b2, _⟩ := valid_no l hv i hi1
      obtain ⟨S, ta, tb, e1, e2⟩ := bits_part (noAt l w).toNat (noAt l i).toNat (l.getD w z24).f1 (l.getD i z24).f1 (by omega) (by omega)
      exact ⟨S.length, fun _ _ => ⟨S, ta, tb, rfl, e1, e2⟩⟩
    · exact ⟨0, fun h1 h2 => absurd ⟨h1, h2⟩ hi⟩
  refine ⟨fun i => (each i).choose, ⟨hw, ?_, ?_, ?_, ?_, ?_⟩⟩
  · intro i h1 h2 j hj
    obtain ⟨S, ta, tb, e, e1, e2⟩ := (each i).choose_spec h1 h2
    simp only [e] at hj
    rw [e1, e2, rd_append_left _ _ j hj, rd_append_left _ _ j hj]
  · intro i h1 h2
    obtain ⟨S, ta, tb, e, e1, e2⟩ := (each i).choose_spec h1 h2
    simp only [e]
    rw [e2, rd_append_mid]
  · intro i h1 h2
    obtain ⟨S, ta, tb, e, e1, e2⟩ := (each i).choose_spec h1 h2
    simp only [e]
    rw [e1, rd_append_mid]
  · intro i h1 h2
    obtain ⟨S, ta, tb, e, e1, e2⟩ := (each i).choose_spec h1 h2
    simp only [e]
    rw [e2]; simp
  · intro i h1 h2
    obtain ⟨S, ta, tb, e, e1, e2⟩ := (each i).choose_spec h1 h2
    simp only [e]
    rw [e1]; simp

theorem diffFrom_eq (b won : List Int) (D : Nat) (hl : ∀ j, j < D → rd b (j : Int) = rd won (j : Int)) (hn : rd b (D : Int) ≠ rd won (D : Int)) (h1 : D < b.length) (h2 : D < won.length) : ∀ (n k : Nat), k ≤ D → D - k < n → diffFrom b won n k = some D
  | 0, k, _, h => by omega
  | n + 1, k, hk, hn' => by
    rw [diffFrom, if_pos (by omega)]
    rcases Nat.lt_or_ge k D with h | h
    · have e : b.getD k 0 = won.getD k 0 := by
        have := hl k h
        exact this
      rw [if_pos e]
      exact diffFrom_eq b won D hl hn h1 h2 n (k + 1) (by omega) (by omega)
    · obtain rfl : k = D := by omega
      have e : ¬ b.getD k 0 = won.getD k 0 := hn
      rw [if_neg e]
theorem sentOf_eq (l : List S24) (hv : l.any nvB = false) (w : Nat) (d : Nat → Nat) (ha : Arb l.length (bitsAt l) w d) : ∀ i, i ≤ l.length → sentOf l w (bitsAt l w) i = some ((mostD w d i : Nat) : Int)
  | 0, _ => rfl
  | i + 1, hi => by
    rw [sentOf, sentOf_eq l hv w d ha i (by omega), Option.bind_some, mostD]
    by_cases h : i = w
    · rw [if_pos h, if_pos h]
    · obtain ⟨_, _, hb⟩ := valid_no l hv i (by omega)
      have hbits : bus_bitsOf.f (l.getD i z24).f0 (l.getD i z24).f1 = some (bitsAt l i) := bitsOf_valid _ _ hb
      have h1 := ha.lenI i (by omega) h
      rw [if_neg h, if_neg h, hbits, Option.bind_some, diffFrom_eq (bitsAt l i) (bitsAt l w) (d i) (ha.like i (by omega) h) (by rw [ha.one i (by omega) h, ha.zero i (by omega) h]; decide) h1 (ha.lenW i (by omega) h) _ 0 (by omega) (by omega), Option.bind_some]
      congr 1
      omega
/-- What Wins answers. -/
theorem bus_Wins_eq (l : List S24) (h1 : l.length ≠ 0) (h2 : l.length ≤ 20) (hv : l.any nvB = false) (hd : dupOf l l.length = false) (d : Nat → Nat) (ha : Arb l.length (bitsAt l) (bestOf l l.length) d) :
    bus_Wins.f l = some ((bestOf l l.length : Int), ((mostD (bestOf l l.length) d l.length : Nat) : Int), 0) := by
  unfold bus_Wins.f
  obtain ⟨_, _, hb⟩ := valid_no l hv _ ha.lt
  have hbits : bus_bitsOf.f (l.getD (bestOf l l.length) z24).f0 (l.getD (bestOf l l.length) z24).f1 = some (bitsAt l (bestOf l l.length)) := bitsOf_valid _ _ hb
  rw [if_neg h1, if_neg (by omega), if_neg (by simp [hv]), if_neg (by simp [hd]), hbits, Option.bind_some, sentOf_eq l hv _ d ha l.length (Nat.le_refl _), Option.bind_some]
end Go.Proofs.YtbanemecfobonaaDoor.B
