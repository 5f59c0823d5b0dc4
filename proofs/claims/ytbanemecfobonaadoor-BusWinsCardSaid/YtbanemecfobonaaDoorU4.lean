/- The specification's Wins, plainly: the arbitration bit by bit ends with the least number, behind the last bit at which another one parts. -/
import Derived.Test.YtbanemecfobonaaDoorU3
import Derived.Test.YtbanemecfobonaaDoorBR3
namespace Go.Proofs.YtbanemecfobonaaDoor.B
open Go.RowKit Go.Proofs.YtbanemecfobonaaDoorW.PrintWords Go.Proofs.YtbanemecfobonaaDoorW.PrintLast Go.Proofs.YtbanemecfobonaaDoorW.PrintMore
set_option linter.unusedVariables false
set_option linter.unusedSimpArgs false

/-- A list of flags. -/
def flagsOf (n : Nat) (G : Nat → Bool) : List Bool := (List.range n).map G
theorem flagsOf_length (n : Nat) (G : Nat → Bool) : (flagsOf n G).length = n := by simp [flagsOf]
theorem flagsOf_rd (n : Nat) (G : Nat → Bool) (i : Nat) (h : i < n) : rdOf false (flagsOf n G) (i : Int) = G i := by
  show (flagsOf n G).getD i false = G i
  rw [List.getD_eq_getElem?_getD, flagsOf, List.getElem?_map, List.getElem?_range h]
  rfl
theorem flagsOf_congr (n : Nat) (G G' : Nat → Bool) (h : ∀ i, i < n → G i = G' i) : flagsOf n G = flagsOf n G' := by
  unfold flagsOf
  exact List.map_congr_left fun i hi => h i (List.mem_range.1 hi)
theorem flagsOf_set (n : Nat) (G : Nat → Bool) (j : Nat) (v : Bool) : (flagsOf n G).set j v = flagsOf n (fun i => if i = j then v else G i) := by
  refine List.ext_getElem (by simp [flagsOf]) fun i h1 h2 => ?_
  simp only [flagsOf, List.getElem_set, List.getElem_map, List.getElem_range]
  by_cases h : j = i
  · rw [if_pos h, if_pos h.symm]
  · rw [if_neg h, if_neg (fun e => h e.symm)]
/-- How many flags. -/
def cnt : Nat → (Nat → Bool) → Nat
  | 0, _ => 0
  | n + 1, G => cnt n G + (if G n = true then 1 else 0)
theorem cnt_congr (G G' : Nat → Bool) : ∀ n, (∀ i, i < n → G i = G' i) → cnt n G = cnt n G'
  | 0, _ => rfl
  | n + 1, h => by rw [cnt, cnt, cnt_congr G G' n (fun i hi => h i (by omega)), h n (by omega)]
theorem cnt_off (G : Nat → Bool) (j : Nat) (hj : G j = true) : ∀ n, j < n → cnt n (fun i => if i = j then false else G i) + 1 = cnt n G
  | 0, h => by omega
  | n + 1, h => by
    rw [cnt, cnt]
    rcases Nat.lt_or_ge j n with h1 | h1
    · have := cnt_off G j hj n h1
      have hne : ¬ n = j := by omega
      simp only [if_neg hne]
      omega
    · obtain rfl : j = n := by omega
      have e := cnt_congr (fun i => if i = j then false else G i) G j (fun i hi => if_neg (by omega))
      rw [e, hj]
      simp
theorem cnt_zero (G : Nat → Bool) : ∀ n, (∀ i, i < n → G i = false) → cnt n G = 0
  | 0, _ => rfl
  | n + 1, h => by rw [cnt, cnt_zero G n (fun i hi => h i (by omega)), h n (by omega)]; rfl
theorem cnt_pos (G : Nat → Bool) (i : Nat) (hi : G i = true) : ∀ n, i < n → 1 ≤ cnt n G
  | 0, h => by omega
  | n + 1, h => by
    rw [cnt]
    rcases Nat.lt_or_ge i n with h1 | h1
    · have := cnt_pos G i hi n h1
      omega
    · obtain rfl : i = n := by omega
      rw [hi]; simp
theorem mostD_ge (w : Nat) (d : Nat → Nat) : ∀ n i, i < n → i ≠ w → d i + 1 ≤ mostD w d n
  | 0, i, h, _ => by omega
  | n + 1, i, h, hi => by
    rw [mostD]
    rcases Nat.lt_or_ge i n with h1 | h1
    · have := mostD_ge w d n i h1 hi
      split <;> omega
    · obtain rfl : i = n := by omega
      rw [if_neg hi]; omega
theorem mostD_ex (w : Nat) (d : Nat → Nat) (a : Nat) : ∀ n, a < mostD w d n → ∃ i, i < n ∧ i ≠ w ∧ a ≤ d i
  | 0, h => by simp [mostD] at h
  | n + 1, h => by
    rw [mostD] at h
    by_cases hn : n = w
    · rw [if_pos hn] at h
      obtain ⟨i, h1, h2, h3⟩ := mostD_ex w d a n h
      exact ⟨i, by omega, h2, h3⟩
    · rw [if_neg hn] at h
      rcases Nat.lt_or_ge a (mostD w d n) with h1 | h1
      · obtain ⟨i, h1, h2, h3⟩ := mostD_ex w d a n h1
        exact ⟨i, by omega, h2, h3⟩
      · exact ⟨n, by omega, hn, by omega⟩

theorem i1 (i : Nat) (h : i ≤ 1000000) : wrap64 ((i : Int) + 1) = ((i + 1 : Nat) : Int) := by rw [w64 _ (by omega) (by omega)]; omega

section
variable (l : List S24) (w : Nat) (d : Nat → Nat)
/-- Who is left at bit a. -/
def left (w : Nat) (d : Nat → Nat) (a i : Nat) : Bool := decide (i = w ∨ a ≤ d i)
/-- All bits. -/
def allB (l : List S24) (n : Nat) : List (List Int) := (List.range n).map (bitsAt l)
theorem allB_length (n : Nat) : (allB l n).length = n := by simp [allB]
theorem allB_rd (n i : Nat) (h : i < n) : rd_L1 (allB l n) (i : Int) = bitsAt l i := by
  show (allB l n).getD i [] = _
  rw [List.getD_eq_getElem?_getD, allB, List.getElem?_map, List.getElem?_range h]
  rfl
/-- The wire when j frames have spoken. -/
def wireAt (l : List S24) (w : Nat) (d : Nat → Nat) (a : Nat) : Nat → Int
  | 0 => 1
  | j + 1 => if left w d a j = true ∧ rd (bitsAt l j) (a : Int) = 0 then 0 else wireAt l w d a j
end

theorem wireAt_bit (l : List S24) (w : Nat) (d : Nat → Nat) (a : Nat) : ∀ j, wireAt l w d a j = 0 ∨ wireAt l w d a j = 1
  | 0 => .inr rfl
  | j + 1 => by
    rw [wireAt]
    split
    · exact .inl rfl
    · exact wireAt_bit l w d a j
theorem wireAt_zero (l : List S24) (w : Nat) (d : Nat → Nat) (a : Nat) (hz : rd (bitsAt l w) (a : Int) = 0) : ∀ j, w < j → wireAt l w d a j = 0
  | 0, h => by omega
  | j + 1, h => by
    rw [wireAt]
    by_cases hj : j = w
    · rw [if_pos ⟨by simp [left, hj], by rw [hj]; exact hz⟩]
    · split
      · rfl
      · exact wireAt_zero l w d a hz j (by omega)
theorem wireAt_one (l : List S24) (w : Nat) (d : Nat → Nat) (a : Nat) (ha : Arb l.length (bitsAt l) w d) (ho : rd (bitsAt l w) (a : Int) = 1) : ∀ j, j ≤ l.length → wireAt l w d a j = 1
  | 0, _ => rfl
  | j + 1, h => by
    rw [wireAt, if_neg, wireAt_one l w d a ha ho j (by omega)]
    rintro ⟨h1, h2⟩
    by_cases hj : j = w
    · rw [hj, ho] at h2; cases h2
    · have h3 : a ≤ d j := by
        simp only [left, decide_eq_true_eq] at h1
        rcases h1 with h | h
        · exact absurd h hj
        · exact h
      rcases Nat.lt_or_ge a (d j) with h4 | h4
      · rw [ha.like j (by omega) hj a h4, ho] at h2; cases h2
      · obtain rfl : a = d j := by omega
        rw [ha.zero j (by omega) hj] at ho; cases ho
theorem bitsS_bit (no : Nat) (data : List Int) : ∀ x ∈ bitsS no data, x = 0 ∨ x = 1 := by
  have key : ∀ (p : List Int), (∀ x ∈ p, x = 0 ∨ x = 1) → ∀ bit many, ∀ x ∈ stuffed p bit many, x = 0 ∨ x = 1 := by
    intro p
    induction p with
    | nil => intro _ bit many x hx; simp [stuffed] at hx
    | cons b p ih =>
      intro hp bit many x hx
      have hb := hp b List.mem_cons_self
      have hp' : ∀ x ∈ p, x = 0 ∨ x = 1 := fun x hx => hp x (List.mem_cons_of_mem _ hx)
      have e : wrap64 (1 - b) = 1 - b := w64 _ (by omega) (by omega)
      rw [stuffed] at hx
      split at hx
      · simp only [List.mem_cons] at hx
        rcases hx with rfl | rfl | hx
        · exact hb
        · rw [e]; omega
        · exact ih hp' _ _ x hx
      · simp only [List.mem_cons] at hx
        rcases hx with rfl | hx
        · exact hb
        · exact ih hp' _ _ x hx
  intro x hx
  rw [bitsS, List.mem_append] at hx
  rcases hx with h | h
  · exact key _ (plainS_bit no data) 0 0 x h
  · have : ∀ y ∈ tailD, y = 0 ∨ y = 1 := by decide
    exact this x h
theorem rd_mem (x : List Int) (i : Nat) (h : i < x.length) : rd x (i : Int) ∈ x := by
  show x.getD i 0 ∈ x
  rw [List.getD_eq_getElem?_getD, List.getElem?_eq_getElem h]
  exact List.getElem_mem h
theorem wire_is (l : List S24) (w : Nat) (d : Nat → Nat) (a : Nat) (ha : Arb l.length (bitsAt l) w d) (hl : a < (bitsAt l w).length) : wireAt l w d a l.length = rd (bitsAt l w) (a : Int) := by
  rcases bitsS_bit _ _ _ (rd_mem (bitsAt l w) a hl) with h | h
  · rw [h]; exact wireAt_zero l w d a h _ ha.lt
  · rw [h]; exact wireAt_one l w d a ha h _ (Nat.le_refl _)

section
variable (l : List S24) (hn20 : l.length ≤ 20) (w : Nat) (d : Nat → Nat) (ha : Arb l.length (bitsAt l) w d) (hD : ∀ i, (bitsAt l i).length ≤ 1000000)
include hn20 ha hD
omit hD in
theorem W_l6 (a : Nat) (hG : ∀ i, i < l.length → i ≠ w → left w d a i = false) : ∀ m j, w - j = m → j ≤ w → Ev (fun k => neonwrightref08_Wins.l6 k l (flagsOf l.length (left w d a)) (a : Int) (j : Int)) (some ((w : Int), (a : Int), 0))
  | 0, j, hm, hj => by
    obtain rfl : j = w := by omega
    have := ha.lt
    refine Ev.now 0 fun k _ => ?_
    have e : left j d a j = true := by simp [left]
    rw [neonwrightref08_Wins.l6, if_pos (by omega), if_pos (by omega), if_pos (by rw [flagsOf_length]; omega), flagsOf_rd _ _ _ (by omega), if_pos e]
  | m + 1, j, hm, hj => by
    have := ha.lt
    refine Ev.succ (W_l6 a hG m (j + 1) (by omega) (by omega)) 0 fun k _ => ?_
    have e : ¬ left w d a j = true := by rw [hG j (by omega) (by omega)]; simp
    rw [neonwrightref08_Wins.l6, if_pos (by omega), if_pos (by omega), if_pos (by rw [flagsOf_length]; omega), flagsOf_rd _ _ _ (by omega), if_neg e, i1 j (by omega)]
/-- The flags when j frames have been looked at, at bit a. -/
def mixG (w : Nat) (d : Nat → Nat) (a j i : Nat) : Bool := if i < j then left w d (a + 1) i else left w d a i
omit hn20 ha hD in
theorem mixG_zero (a : Nat) : mixG w d a 0 = left w d a := by funext i; simp [mixG]
omit hn20 ha hD in
theorem mixG_full (n a : Nat) : flagsOf n (mixG w d a n) = flagsOf n (left w d (a + 1)) := flagsOf_congr _ _ _ fun i hi => by simp [mixG, hi]
omit hn20 ha hD in
theorem mixG_cnt (n a : Nat) : cnt n (mixG w d a n) = cnt n (left w d (a + 1)) := cnt_congr _ _ _ fun i hi => by simp [mixG, hi]
theorem W_l5 (a : Nat) (r : Option (Int × Int × Int)) (hex : ∃ i, i < l.length ∧ i ≠ w ∧ a ≤ d i)
    (h3 : Ev (fun k => neonwrightref08_Wins.l3 k l (flagsOf l.length (left w d (a + 1))) (allB l l.length) (cnt l.length (left w d (a + 1)) : Int) ((a + 1 : Nat) : Int)) r) :
    ∀ m j, l.length - j = m → j ≤ l.length → Ev (fun k => neonwrightref08_Wins.l5 k l (flagsOf l.length (mixG w d a j)) (allB l l.length) (cnt l.length (mixG w d a j) : Int) (a : Int) (rd (bitsAt l w) (a : Int)) (j : Int)) r
  | 0, j, hm, hj => by
    obtain rfl : j = l.length := by omega
    rw [mixG_full, mixG_cnt]
    obtain ⟨i, hi1, hi2, hi3⟩ := hex
    have h1 := ha.lenW i hi1 hi2
    have h2 := hD w
    refine Ev.succ h3 0 fun k _ => ?_
    rw [neonwrightref08_Wins.l5, if_neg (by omega), i1 a (by omega)]
  | m + 1, j, hm, hj => by
    obtain ⟨i, hi1, hi2, hi3⟩ := hex
    have hlw := ha.lenW i hi1 hi2
    have hlw2 := hD w
    have ih := W_l5 a r ⟨i, hi1, hi2, hi3⟩ h3 m (j + 1) (by omega) (by omega)
    refine Ev.succ ih 0 fun k _ => ?_
    have eG : mixG w d a j j = left w d a j := by simp [mixG]
    have hsame : left w d (a + 1) j = left w d a j → flagsOf l.length (mixG w d a j) = flagsOf l.length (mixG w d a (j + 1)) ∧ cnt l.length (mixG w d a j) = cnt l.length (mixG w d a (j + 1)) := by
      intro e
      have : ∀ i, i < l.length → mixG w d a j i = mixG w d a (j + 1) i := by
        intro i hi
        simp only [mixG]
        rcases Nat.lt_trichotomy i j with h | h | h
        · rw [if_pos h, if_pos (by omega)]
        · subst h; rw [if_neg (by omega), if_pos (by omega), e]
        · rw [if_neg (by omega), if_neg (by omega)]
      exact ⟨flagsOf_congr _ _ _ this, cnt_congr _ _ _ this⟩
    rw [neonwrightref08_Wins.l5, if_pos (by omega), if_pos (by omega), if_pos (by rw [flagsOf_length]; omega), flagsOf_rd _ _ _ (by omega), eG, i1 j (by omega)]
    by_cases hL : left w d a j = true
    · have hlen : a < (bitsAt l j).length := by
        by_cases hj : j = w
        · rw [hj]; omega
        · have h5 : a ≤ d j := by
            simp only [left, decide_eq_true_eq] at hL
            rcases hL with h | h
            · exact absurd h hj
            · exact h
          have := ha.lenI j (by omega) hj
          omega
      rw [if_pos hL, if_pos (by rw [allB_length]; omega), if_pos (by omega), allB_rd l _ _ (by omega), if_pos (by omega)]
      by_cases hk : j = w ∨ a < d j
      · have e1 : rd (bitsAt l j) (a : Int) = rd (bitsAt l w) (a : Int) := by
          by_cases hj : j = w
          · rw [hj]
          · exact ha.like j (by omega) hj a (by rcases hk with h | h; exact absurd h hj; exact h)
        have e2 : left w d (a + 1) j = left w d a j := by
          rw [hL]
          simp only [left, decide_eq_true_eq]
          rcases hk with h | h
          · exact .inl h
          · exact .inr (by omega)
        rw [if_pos e1, (hsame e2).1, (hsame e2).2]
      · have hj : j ≠ w := fun e => hk (.inl e)
        have hdj : d j = a := by
          simp only [left, decide_eq_true_eq] at hL
          rcases hL with h | h
          · exact absurd h hj
          · have : ¬ a < d j := fun e => hk (.inr e)
            omega
        have e1 : ¬ rd (bitsAt l j) (a : Int) = rd (bitsAt l w) (a : Int) := by
          have h6 := ha.one j (by omega) hj
          have h7 := ha.zero j (by omega) hj
          rw [hdj] at h6 h7
          rw [h6, h7]; decide
        have hoff : left w d (a + 1) j = false := by
          simp only [left, decide_eq_false_iff_not]
          rintro (h | h)
          · exact hj h
          · omega
        have hset : ∀ i, i < l.length → (if i = j then false else mixG w d a j i) = mixG w d a (j + 1) i := by
          intro i hi
          simp only [mixG]
          rcases Nat.lt_trichotomy i j with h | h | h
          · rw [if_neg (by omega), if_pos h, if_pos (by omega)]
          · subst h; rw [if_pos rfl, if_pos (by omega), hoff]
          · rw [if_neg (by omega), if_neg (by omega), if_neg (by omega)]
        have hc := cnt_off (mixG w d a j) j (by rw [eG]; exact hL) l.length (by omega)
        rw [cnt_congr _ _ _ hset] at hc
        have e10 : wrap64 ((cnt l.length (mixG w d a j) : Int) - 1) = (cnt l.length (mixG w d a (j + 1)) : Int) := by
          have hb : ∀ n (G : Nat → Bool), cnt n G ≤ n := by
            intro n G
            induction n with
            | zero => exact Nat.le_refl _
            | succ n ih => rw [cnt]; split <;> omega
          have := hb l.length (mixG w d a j)
          rw [w64 _ (by omega) (by omega)]; omega
        rw [if_neg e1, e10]
        have es : (flagsOf l.length (mixG w d a j)).set ((j : Int)).toNat false = flagsOf l.length (mixG w d a (j + 1)) := by
          rw [Int.toNat_natCast, flagsOf_set]; exact flagsOf_congr _ _ _ hset
        rw [es]
    · have e2 : left w d (a + 1) j = left w d a j := by
        have : left w d a j = false := by simpa using hL
        rw [this]
        simp only [left, decide_eq_true_eq, decide_eq_false_iff_not] at hL ⊢
        intro h
        rcases h with h | h
        · exact hL (.inl h)
        · exact hL (.inr (by omega))
      rw [if_neg hL, (hsame e2).1, (hsame e2).2]
omit hD in
theorem W_l4 (a : Nat) (r : Option (Int × Int × Int)) (hex : ∃ i, i < l.length ∧ i ≠ w ∧ a ≤ d i)
    (h5 : Ev (fun k => neonwrightref08_Wins.l5 k l (flagsOf l.length (left w d a)) (allB l l.length) (cnt l.length (left w d a) : Int) (a : Int) (rd (bitsAt l w) (a : Int)) 0) r) :
    ∀ m j, l.length - j = m → j ≤ l.length → Ev (fun k => neonwrightref08_Wins.l4 k l (flagsOf l.length (left w d a)) (allB l l.length) (cnt l.length (left w d a) : Int) (a : Int) (wireAt l w d a j) (j : Int)) r
  | 0, j, hm, hj => by
    obtain rfl : j = l.length := by omega
    obtain ⟨i, hi1, hi2, hi3⟩ := hex
    have h1 := ha.lenW i hi1 hi2
    rw [wire_is l w d a ha (by omega)]
    refine Ev.succ h5 0 fun k _ => ?_
    rw [neonwrightref08_Wins.l4, if_neg (by omega)]
  | m + 1, j, hm, hj => by
    obtain ⟨i, hi1, hi2, hi3⟩ := hex
    have hlw := ha.lenW i hi1 hi2
    have ih := W_l4 a r ⟨i, hi1, hi2, hi3⟩ h5 m (j + 1) (by omega) (by omega)
    refine Ev.succ ih 0 fun k _ => ?_
    rw [neonwrightref08_Wins.l4, if_pos (by omega), if_pos (by omega), if_pos (by rw [flagsOf_length]; omega), flagsOf_rd _ _ _ (by omega), i1 j (by omega), wireAt]
    by_cases hL : left w d a j = true
    · have hlen : a < (bitsAt l j).length := by
        by_cases hj : j = w
        · rw [hj]; omega
        · have h5 : a ≤ d j := by
            simp only [left, decide_eq_true_eq] at hL
            rcases hL with h | h
            · exact absurd h hj
            · exact h
          have := ha.lenI j (by omega) hj
          omega
      rw [if_pos hL, if_pos (by rw [allB_length]; omega), if_pos (by omega), allB_rd l _ _ (by omega), if_pos (by omega)]
      by_cases hz : rd (bitsAt l j) (a : Int) = 0
      · rw [if_pos hz, if_pos ⟨hL, hz⟩]
      · rw [if_neg hz, if_neg (fun h => hz h.2)]
    · rw [if_neg hL, if_neg (fun h => hL h.1)]
theorem W_l3 : ∀ m a, mostD w d l.length - a = m → a ≤ mostD w d l.length → Ev (fun k => neonwrightref08_Wins.l3 k l (flagsOf l.length (left w d a)) (allB l l.length) (cnt l.length (left w d a) : Int) (a : Int)) (some ((w : Int), ((mostD w d l.length : Nat) : Int), 0)) := by
  intro m
  have hw := ha.lt
  have hcw : ∀ a, cnt l.length (fun i => if i = w then false else left w d a i) + 1 = cnt l.length (left w d a) := fun a => cnt_off (left w d a) w (by simp [left]) l.length hw
  induction m with
  | zero =>
    intro a hm hle
    obtain rfl : a = mostD w d l.length := by omega
    have hG : ∀ i, i < l.length → i ≠ w → left w d (mostD w d l.length) i = false := by
      intro i h1 h2
      have := mostD_ge w d l.length i h1 h2
      simp only [left, decide_eq_false_iff_not]
      rintro (h | h)
      · exact h2 h
      · omega
    have h0 := cnt_zero (fun i => if i = w then false else left w d (mostD w d l.length) i) l.length (fun i hi => by
      by_cases h : i = w
      · simp [h]
      · simp [h, hG i hi h])
    have h1 := hcw (mostD w d l.length)
    refine Ev.succ (W_l6 l hn20 w d ha (mostD w d l.length) hG w 0 (by omega) (by omega)) 0 fun k _ => ?_
    rw [neonwrightref08_Wins.l3, if_neg (by omega)]
    rfl
  | succ m ih =>
    intro a hm hle
    obtain ⟨i, hi1, hi2, hi3⟩ := mostD_ex w d a l.length (by omega)
    have h0 := cnt_pos (fun i => if i = w then false else left w d a i) i (by simp [hi2, left, hi3]) l.length hi1
    have h1 := hcw a
    have h5 := W_l5 l hn20 w d ha hD a _ ⟨i, hi1, hi2, hi3⟩ (ih (a + 1) (by omega) (by omega)) l.length 0 (by omega) (by omega)
    rw [mixG_zero] at h5
    refine Ev.succ (W_l4 l hn20 w d ha a _ ⟨i, hi1, hi2, hi3⟩ h5 l.length 0 (by omega) (by omega)) 0 fun k _ => ?_
    rw [neonwrightref08_Wins.l3, if_pos (by omega)]
    rfl
theorem W_l2 (hv : l.any nvB = false) : ∀ m j, l.length - j = m → j ≤ l.length → Ev (fun k => neonwrightref08_Wins.l2 k l (flagsOf l.length (fun i => decide (i < j))) (allB l j) (j : Int)) (some ((w : Int), ((mostD w d l.length : Nat) : Int), 0))
  | 0, j, hm, hj => by
    obtain rfl : j = l.length := by omega
    have e1 : flagsOf l.length (fun i => decide (i < l.length)) = flagsOf l.length (left w d 0) := flagsOf_congr _ _ _ fun i hi => by simp [left, hi]
    have e2 : cnt l.length (left w d 0) = l.length := by
      have : ∀ n, cnt n (left w d 0) = n := by
        intro n
        induction n with
        | zero => rfl
        | succ n ih => rw [cnt, ih]; simp [left]
      exact this _
    have h3 := W_l3 l hn20 w d ha hD (mostD w d l.length) 0 (by omega) (by omega)
    rw [e2] at h3
    rw [e1]
    refine Ev.succ h3 0 fun k _ => ?_
    rw [neonwrightref08_Wins.l2, if_neg (by omega)]
    rfl
  | m + 1, j, hm, hj => by
    have ih := W_l2 hv m (j + 1) (by omega) (by omega)
    obtain ⟨h1, h2, hb⟩ := valid_no l hv j (by omega)
    obtain ⟨_, _, h3, h4⟩ := vB_parts _ _ hb
    have e : ((noAt l j).toNat : Int) = noAt l j := by omega
    refine Ev.succ ih 300 fun k hk => ?_
    have eb : neonwrightref08_bits.f k ((rd_T24 l (j : Int)).f0) ((rd_T24 l (j : Int)).f1) = some (bitsAt l j) := by
      have := ref_bits_eq (noAt l j).toNat (l.getD j z24).f1 (by omega) h3 h4 k hk
      rw [e] at this
      exact this
    have es : (flagsOf l.length (fun i => decide (i < j))).set ((j : Int)).toNat true = flagsOf l.length (fun i => decide (i < j + 1)) := by
      rw [Int.toNat_natCast, flagsOf_set]
      refine flagsOf_congr _ _ _ fun i hi => ?_
      by_cases h : i = j
      · simp [h]
      · rw [if_neg h]
        have : (i < j) = (i < j + 1) := by rw [eq_iff_iff]; omega
        simp only [this]
    have ea : allB l j ++ [bitsAt l j] = allB l (j + 1) := by simp [allB, List.range_succ]
    rw [neonwrightref08_Wins.l2, if_pos (by omega), if_pos (by omega), if_pos (by rw [flagsOf_length]; omega), eb, Option.bind_some, if_pos (by rw [allB_length]; omega), es, ea, i1 j (by omega)]
end

/-- The search for twins. -/
theorem W_l1 (l : List S24) (hn20 : l.length ≤ 20) (j : Nat) (hj : j < l.length) (r : Option (Int × Int × Int)) (hd : ∀ i, i < j → noAt l i ≠ noAt l j) (h0 : Ev (fun k => neonwrightref08_Wins.l0 k l ((j + 1 : Nat) : Int)) r) :
    ∀ m i, j - i = m → i ≤ j → Ev (fun k => neonwrightref08_Wins.l1 k l (j : Int) (i : Int)) r
  | 0, i, hm, hi => by
    obtain rfl : i = j := by omega
    refine Ev.succ h0 0 fun k _ => ?_
    rw [neonwrightref08_Wins.l1, if_neg (by omega), i1 i (by omega)]
  | m + 1, i, hm, hi => by
    refine Ev.succ (W_l1 l hn20 j hj r hd h0 m (i + 1) (by omega) (by omega)) 0 fun k _ => ?_
    have e : ¬ (rd_T24 l (i : Int)).f0 = (rd_T24 l (j : Int)).f0 := hd i (by omega)
    rw [neonwrightref08_Wins.l1, if_pos (by omega), if_pos (by omega), if_pos (by omega), if_pos (by omega), if_pos (by omega), if_neg e, i1 i (by omega)]
theorem W_l1_bad (l : List S24) (hn20 : l.length ≤ 20) (j : Nat) (hj : j < l.length) (t : Nat) (ht : t < j) (hd : noAt l t = noAt l j) :
    ∀ m i, t - i = m → i ≤ t → Ev (fun k => neonwrightref08_Wins.l1 k l (j : Int) (i : Int)) (some (0, 0, 2))
  | 0, i, hm, hi => by
    obtain rfl : i = t := by omega
    refine Ev.now 0 fun k _ => ?_
    have e : (rd_T24 l (i : Int)).f0 = (rd_T24 l (j : Int)).f0 := hd
    rw [neonwrightref08_Wins.l1, if_pos (by omega), if_pos (by omega), if_pos (by omega), if_pos (by omega), if_pos (by omega), if_pos e]
  | m + 1, i, hm, hi => by
    by_cases he : noAt l i = noAt l j
    · refine Ev.now 0 fun k _ => ?_
      have e : (rd_T24 l (i : Int)).f0 = (rd_T24 l (j : Int)).f0 := he
      rw [neonwrightref08_Wins.l1, if_pos (by omega), if_pos (by omega), if_pos (by omega), if_pos (by omega), if_pos (by omega), if_pos e]
    · refine Ev.succ (W_l1_bad l hn20 j hj t ht hd m (i + 1) (by omega) (by omega)) 0 fun k _ => ?_
      have e : ¬ (rd_T24 l (i : Int)).f0 = (rd_T24 l (j : Int)).f0 := he
      rw [neonwrightref08_Wins.l1, if_pos (by omega), if_pos (by omega), if_pos (by omega), if_pos (by omega), if_pos (by omega), if_neg e, i1 i (by omega)]
theorem W_l0 (l : List S24) (hn20 : l.length ≤ 20) (hdl : ∀ i, i < l.length → (l.getD i z24).f1.length ≤ 40) (r : Option (Int × Int × Int)) (hg : ∀ i, i < l.length → vB (l.getD i z24) = true ∧ ∀ t, t < i → noAt l t ≠ noAt l i)
    (h2 : Ev (fun k => neonwrightref08_Wins.l2 k l (List.replicate l.length false) [] 0) r) :
    ∀ m j, l.length - j = m → j ≤ l.length → Ev (fun k => neonwrightref08_Wins.l0 k l (j : Int)) r
  | 0, j, hm, hj => by
    obtain rfl : j = l.length := by omega
    refine Ev.succ h2 0 fun k _ => ?_
    rw [neonwrightref08_Wins.l0, if_neg (by omega), if_pos (by omega), if_pos (by omega)]
    rfl
  | m + 1, j, hm, hj => by
    obtain ⟨h1, h3⟩ := hg j (by omega)
    have ih := W_l0 l hn20 hdl r hg h2 m (j + 1) (by omega) (by omega)
    refine Ev.succ (W_l1 l hn20 j (by omega) r h3 ih j 0 (by omega) (by omega)) 100 fun k hk => ?_
    have hlen := hdl j (by omega)
    have eF : neonwrightref08_Frame.f k ((rd_T24 l (j : Int)).f0) ((rd_T24 l (j : Int)).f1) = some (vB (l.getD j z24)) := Frame_eq _ _ (by show (l.getD j z24).f1.length ≤ 1000; omega) k (by show (l.getD j z24).f1.length + 2 < k; omega)
    rw [neonwrightref08_Wins.l0, if_pos (by omega), if_pos (by omega), eF, Option.bind_some, if_pos h1]
    rfl
theorem W_l0_bad (l : List S24) (hn20 : l.length ≤ 20) (hdl : ∀ i, i < l.length → (l.getD i z24).f1.length ≤ 40) (b : Nat) (hb : b < l.length) (hbad : vB (l.getD b z24) = false ∨ ∃ t, t < b ∧ noAt l t = noAt l b) :
    ∀ m j, b - j = m → j ≤ b → Ev (fun k => neonwrightref08_Wins.l0 k l (j : Int)) (some (0, 0, 2)) := by
  have eF : ∀ j, j < l.length → ∀ k, 100 ≤ k → neonwrightref08_Frame.f k ((rd_T24 l (j : Int)).f0) ((rd_T24 l (j : Int)).f1) = some (vB (l.getD j z24)) := fun j hj k hk => by
    have hlen := hdl j hj
    exact Frame_eq _ _ (by show (l.getD j z24).f1.length ≤ 1000; omega) k (by show (l.getD j z24).f1.length + 2 < k; omega)
  intro m
  induction m with
  | zero =>
    intro j hm hj
    obtain rfl : j = b := by omega
    by_cases hvv : vB (l.getD j z24) = true
    · obtain ⟨t, ht, he⟩ : ∃ t, t < j ∧ noAt l t = noAt l j := by
        rcases hbad with h | h
        · rw [hvv] at h; cases h
        · exact h
      refine Ev.succ (W_l1_bad l hn20 j hb t ht he t 0 (by omega) (by omega)) 100 fun k hk => ?_
      rw [neonwrightref08_Wins.l0, if_pos (by omega), if_pos (by omega), eF j hb k hk, Option.bind_some, if_pos hvv]
      rfl
    · refine Ev.now 100 fun k hk => ?_
      rw [neonwrightref08_Wins.l0, if_pos (by omega), if_pos (by omega), eF j hb k hk, Option.bind_some, if_neg hvv]
  | succ m ih =>
    intro j hm hj
    have ih := ih (j + 1) (by omega) (by omega)
    by_cases hvv : vB (l.getD j z24) = true
    · by_cases hdd : ∃ t, t < j ∧ noAt l t = noAt l j
      · obtain ⟨t, ht, he⟩ := hdd
        refine Ev.succ (W_l1_bad l hn20 j (by omega) t ht he t 0 (by omega) (by omega)) 100 fun k hk => ?_
        rw [neonwrightref08_Wins.l0, if_pos (by omega), if_pos (by omega), eF j (by omega) k hk, Option.bind_some, if_pos hvv]
        rfl
      · refine Ev.succ (W_l1 l hn20 j (by omega) _ (fun i hi e => hdd ⟨i, hi, e⟩) ih j 0 (by omega) (by omega)) 100 fun k hk => ?_
        rw [neonwrightref08_Wins.l0, if_pos (by omega), if_pos (by omega), eF j (by omega) k hk, Option.bind_some, if_pos hvv]
        rfl
    · refine Ev.now 100 fun k hk => ?_
      rw [neonwrightref08_Wins.l0, if_pos (by omega), if_pos (by omega), eF j (by omega) k hk, Option.bind_some, if_neg hvv]
theorem dup_ex (l : List S24) : ∀ n, dupOf l n = true → ∃ b, b < n ∧ ∃ t, t < b ∧ noAt l t = noAt l b
  | 0, h => by simp [dupOf] at h
  | n + 1, h => by
    rw [dupOf, Bool.or_eq_true] at h
    rcases h with h | h
    · obtain ⟨b, h1, h2⟩ := dup_ex l n h
      exact ⟨b, by omega, h2⟩
    · have hm := List.contains_iff_mem.mp h
      have : ∀ n, ∀ x ∈ nosOf l n, ∃ t, t < n ∧ noAt l t = x := by
        intro n
        induction n with
        | zero => intro x hx; simp [nosOf] at hx
        | succ n ih =>
          intro x hx
          rw [nosOf, List.mem_cons] at hx
          rcases hx with rfl | hx
          · exact ⟨n, by omega, rfl⟩
          · obtain ⟨t, h1, h2⟩ := ih x hx
            exact ⟨t, by omega, h2⟩
      obtain ⟨t, h1, h2⟩ := this n _ hm
      exact ⟨n, by omega, t, h1, h2⟩
theorem stuffed_le2 : ∀ (p : List Int) (bit many : Int), (stuffed p bit many).length ≤ 2 * p.length
  | [], _, _ => by simp [stuffed]
  | b :: p, bit, many => by
    rw [stuffed]
    split
    · have := stuffed_le2 p (put1 (put1 bit many b).1 (put1 bit many b).2 (wrap64 (1 - b))).1 (put1 (put1 bit many b).1 (put1 bit many b).2 (wrap64 (1 - b))).2
      simp; omega
    · have := stuffed_le2 p (put1 bit many b).1 (put1 bit many b).2
      simp; omega
theorem bitsAt_le (l : List S24) (hdl : ∀ i, (l.getD i z24).f1.length ≤ 40) (i : Nat) : (bitsAt l i).length ≤ 1000000 := by
  have h1 := hdl i
  have h2 := stuffed_le2 (plainS (noAt l i).toNat (l.getD i z24).f1) 0 0
  have h3 := plainS_length (noAt l i).toNat (l.getD i z24).f1
  simp only [bitsAt, bitsS, List.length_append, tailD_length]
  omega
/-- Both Wins answer alike. -/
theorem Wins_alike (l : List S24) (hdl : ∀ i, (l.getD i z24).f1.length ≤ 40) : ∃ r, bus_Wins.f l = some r ∧ Ev (fun k => neonwrightref08_Wins.f k l) (some r) := by
  by_cases h0 : l.length = 0
  · refine ⟨(0, 0, 2), by unfold bus_Wins.f; rw [if_pos h0], ?_⟩
    refine Ev.now 0 fun k _ => ?_
    show neonwrightref08_Wins.f (k + 1) l = _
    rw [neonwrightref08_Wins.f, if_pos (by omega), neonwrightref08_Wins.j0, if_pos rfl]
  have hf : ∀ k, neonwrightref08_Wins.f k l = neonwrightref08_Wins.j0 k l (decide ((l.length : Int) > 20)) := fun k => by rw [neonwrightref08_Wins.f, if_neg (by omega)]
  by_cases h1 : 20 < l.length
  · refine ⟨(0, 0, 2), by unfold bus_Wins.f; rw [if_neg h0, if_pos h1], ?_⟩
    refine Ev.now 0 fun k _ => ?_
    show neonwrightref08_Wins.f (k + 1) l = _
    rw [hf, decide_eq_true (by omega), neonwrightref08_Wins.j0, if_pos rfl]
  have hj : ∀ k, neonwrightref08_Wins.f (k + 1) l = neonwrightref08_Wins.l0 k l 0 := fun k => by rw [hf, decide_eq_false (by omega), neonwrightref08_Wins.j0, if_neg (by simp)]
  have hbadI : ∀ b, b < l.length → (vB (l.getD b z24) = false ∨ ∃ t, t < b ∧ noAt l t = noAt l b) → Ev (fun k => neonwrightref08_Wins.f k l) (some (0, 0, 2)) := fun b hb hbad =>
    Ev.succ (W_l0_bad l (by omega) (fun i _ => hdl i) b hb hbad b 0 (by omega) (by omega)) 0 fun k _ => hj k
  by_cases hv : l.any nvB = true
  · refine ⟨(0, 0, 2), by unfold bus_Wins.f; rw [if_neg h0, if_neg h1, if_pos hv], ?_⟩
    obtain ⟨x, hx, hn⟩ := List.any_eq_true.1 hv
    obtain ⟨b, hb, rfl⟩ := List.getElem_of_mem hx
    refine hbadI b hb (.inl ?_)
    have e : l.getD b z24 = l[b] := by rw [List.getD_eq_getElem?_getD, List.getElem?_eq_getElem hb]; rfl
    rw [e]
    simpa [nvB] using hn
  have hv' : l.any nvB = false := by simpa using hv
  by_cases hd : dupOf l l.length = true
  · refine ⟨(0, 0, 2), by unfold bus_Wins.f; rw [if_neg h0, if_neg h1, if_neg hv, if_pos hd], ?_⟩
    obtain ⟨b, hb, t, ht, he⟩ := dup_ex l l.length hd
    exact hbadI b hb (.inr ⟨t, ht, he⟩)
  have hd' : dupOf l l.length = false := by simpa using hd
  obtain ⟨d, ha⟩ := arb_of l (by omega) hv' hd'
  refine ⟨_, bus_Wins_eq l h0 (by omega) hv' hd' d ha, ?_⟩
  have h2 := W_l2 l (by omega) _ d ha (fun i => bitsAt_le l hdl i) hv' l.length 0 (by omega) (by omega)
  have e1 : flagsOf l.length (fun i => decide (i < 0)) = List.replicate l.length false := by
    refine List.ext_getElem (by simp [flagsOf]) fun i h1 h2 => ?_
    simp [flagsOf]
  have e2 : allB l 0 = [] := rfl
  rw [e1, e2] at h2
  refine Ev.succ (W_l0 l (by omega) (fun i _ => hdl i) _ (fun i hi => ⟨?_, fun t ht => noDup l l.length hd' t i ht hi⟩) h2 l.length 0 (by omega) (by omega)) 0 fun k _ => hj k
  obtain ⟨_, _, hb⟩ := valid_no l hv' i hi
  exact hb
end Go.Proofs.YtbanemecfobonaaDoor.B
