/- Read of the bits of a frame is the frame, whatever bits follow; without the last bit it is none. -/
import Derived.Test.YtbanemecfobonaaDoorU8
namespace Go.Proofs.YtbanemecfobonaaDoor.B
open Go.RowKit Go.Proofs.YtbanemecfobonaaDoorW.PrintWords Go.Proofs.YtbanemecfobonaaDoorW.PrintLast Go.Proofs.YtbanemecfobonaaDoorW.PrintMore
set_option linter.unusedVariables false
set_option linter.unusedSimpArgs false

theorem stuffed_hd (x : Int) (r : List Int) (bit many : Int) : ∃ t, stuffed (x :: r) bit many = x :: t := by
  rw [stuffed]
  split
  · exact ⟨_, rfl⟩
  · exact ⟨_, rfl⟩
theorem rd_right (A B : List Int) (n t : Nat) (h : A.length = n) : rd (A ++ B) ((n + t : Nat) : Int) = rd B (t : Int) := by
  show (A ++ B).getD (n + t) 0 = B.getD t 0
  rw [List.getD_eq_getElem?_getD, List.getD_eq_getElem?_getD, List.getElem?_append_right (by omega)]
  congr 2
  omega
theorem rd_left (A B : List Int) (t : Nat) (h : t < A.length) : rd (A ++ B) (t : Int) = rd A (t : Int) := by
  show (A ++ B).getD t 0 = A.getD t 0
  rw [List.getD_eq_getElem?_getD, List.getD_eq_getElem?_getD, List.getElem?_append_left h]
theorem rd_take (l : List Int) (n t : Nat) (h : t < n) : rd (l.take n) (t : Int) = rd l (t : Int) := by
  show (l.take n).getD t 0 = l.getD t 0
  rw [List.getD_eq_getElem?_getD, List.getD_eq_getElem?_getD, List.getElem?_take_of_lt h]
theorem rd_wr : ∀ (M n t : Nat), t < M → rd (wrN n M) (t : Int) = ((n / 2 ^ (M - 1 - t) % 2 : Nat) : Int)
  | 0, n, t, h => by omega
  | M + 1, n, 0, h => rfl
  | M + 1, n, t + 1, h => by
    have h1 := rd_wr M n t (by omega)
    have e : M + 1 - 1 - (t + 1) = M - 1 - t := by omega
    rw [e, ← h1]
    rfl
section
variable (no : Nat) (l : List Int) (hl : l.length ≤ 8)
theorem rd_zeros (t : Nat) (ht : t < 3) : rd (plainS no l) ((12 + t : Nat) : Int) = 0 := by
  have e1 : plainS no l = ([0] ++ wrN no 11) ++ ([0, 0, 0] ++ (wrN l.length 4 ++ (dataS l ++ wrN (chk (headS no l)) 15))) := by rw [plain_parts]; simp
  rw [e1, rd_right _ _ 12 t (by simp [wrN_length]), rd_left [0, 0, 0] _ t (by simpa using ht)]
  match t, ht with
  | 0, _ => rfl
  | 1, _ => rfl
  | 2, _ => rfl
theorem rd_many (t : Nat) (ht : t < 4) : rd (plainS no l) ((15 + t : Nat) : Int) = ((l.length / 2 ^ (3 - t) % 2 : Nat) : Int) := by
  have e1 : plainS no l = ([0] ++ (wrN no 11 ++ [0, 0, 0])) ++ (wrN l.length 4 ++ (dataS l ++ wrN (chk (headS no l)) 15)) := by rw [plain_parts]; simp
  rw [e1, rd_right _ _ 15 t (by simp [wrN_length]), rd_left (wrN l.length 4) _ t (by rw [wrN_length]; exact ht), rd_wr 4 _ t ht]
theorem rd_check (t : Nat) (ht : t < 15) : rd (plainS no l) ((19 + 8 * l.length + t : Nat) : Int) = ((chk (headS no l) / 2 ^ (14 - t) % 2 : Nat) : Int) := by
  rw [plainS, rd_right _ _ (19 + 8 * l.length) t (headS_length no l), rd_wr 15 _ t ht]
include hl
theorem nbS_take (j : Nat) (hj : 19 ≤ j) : nbS ((plainS no l).take j) = l.length := by
  have e : ((plainS no l).take j).drop 15 = ((plainS no l).drop 15).take (j - 15) := by rw [List.drop_take]
  rw [nbS, e, List.take_take, Nat.min_eq_left (by omega)]
  exact plain_nb no l hl
theorem goes_take (j : Nat) (hj : j < (plainS no l).length) : goesOn ((plainS no l).take j) := by
  have hp := plainS_length no l
  have e : ((plainS no l).take j).length = j := by rw [List.length_take]; omega
  rcases Nat.lt_or_ge j 19 with h | h
  · exact .inl (by omega)
  · refine .inr ?_
    rw [e, nbS_take no l hl j h]
    omega
theorem goes_end : ¬ goesOn (plainS no l) := by
  have hp := plainS_length no l
  rintro (h | h)
  · omega
  · rw [plain_nb no l hl] at h
    omega
theorem due_take (j : Nat) (hj : j < (plainS no l).length) : dueS ((plainS no l).take j) < 0 ∨ rd (plainS no l) (j : Int) = dueS ((plainS no l).take j) := by
  have hp := plainS_length no l
  have e : ((plainS no l).take j).length = j := by rw [List.length_take]; omega
  unfold dueS
  rw [e]
  by_cases h1 : j = 0 ∨ (12 ≤ j ∧ j < 15)
  · rw [if_pos h1]
    refine .inr ?_
    rcases h1 with h1 | h1
    · rw [h1, plain_parts]; rfl
    · have := rd_zeros no l (j - 12) (by omega)
      have e2 : 12 + (j - 12) = j := by omega
      rwa [e2] at this
  · rw [if_neg h1]
    by_cases h2 : 15 < j ∧ j < 19 ∧ rd ((plainS no l).take j) 15 = 1
    · rw [if_pos h2]
      refine .inr ?_
      obtain ⟨h3, h4, h5⟩ := h2
      have h6 : rd ((plainS no l).take j) ((15 : Nat) : Int) = rd (plainS no l) ((15 : Nat) : Int) := rd_take _ j 15 h3
      have h7 := rd_many no l 0 (by omega)
      have h5' : rd ((plainS no l).take j) ((15 : Nat) : Int) = 1 := h5
      rw [h6] at h5'
      have h8 : ((l.length / 2 ^ (3 - 0) % 2 : Nat) : Int) = 1 := h7.symm.trans h5'
      have h9 : l.length = 8 := by
        have : (2 : Nat) ^ (3 - 0) = 8 := rfl
        rw [this] at h8
        omega
      have h10 := rd_many no l (j - 15) (by omega)
      have e2 : 15 + (j - 15) = j := by omega
      rw [e2, h9] at h10
      rw [h10]
      obtain h | h | h : j = 16 ∨ j = 17 ∨ j = 18 := by omega
      · rw [h]; rfl
      · rw [h]; rfl
      · rw [h]; rfl
    · rw [if_neg h2]
      by_cases h3 : 19 ≤ j ∧ 19 + 8 * nbS ((plainS no l).take j) ≤ j
      · rw [if_pos h3]
        refine .inr ?_
        rw [nbS_take no l hl j h3.1] at h3
        have e3 : ((plainS no l).take j).take (19 + 8 * l.length) = headS no l := by
          rw [List.take_take, Nat.min_eq_left h3.2, plainS]
          exact take_app _ _ _ (headS_length no l)
        have h4 := rd_check no l (j - (19 + 8 * l.length)) (by omega)
        have e2 : 19 + 8 * l.length + (j - (19 + 8 * l.length)) = j := by omega
        rw [e2] at h4
        unfold dueC
        rw [h4, nbS_take no l hl j h3.1, e3, e]
      · rw [if_neg h3]
        exact .inl (by decide)

/-- The reader goes through the bits of a frame. -/
theorem read_back (x : List Int) (rest : List Int) : ∀ (p' got : List Int) (s : Rd) (i m : Nat), got ++ p' = plainS no l → s.pos = (i : Int) → 0 ≤ s.many → s.many ≤ 4 → x.drop i = stuffed p' s.bit s.many ++ rest → p'.length ≤ m →
    ∃ s', readLoop x (m + 1) s got = some (true, plainS no l, s') ∧ s'.pos = ((i + (stuffed p' s.bit s.many).length : Nat) : Int)
  | [], got, s, i, m, hg, hp, h0, h4, hd, hm => by
    have hpl := plainS_length no l
    rw [List.append_nil] at hg
    have hgl : got.length ≤ 1000 := by rw [hg]; omega
    obtain ⟨n, hn, hc⟩ := cond_eq got (by rw [hg]; exact plainS_bit no l) (by rw [hg]; omega)
    have hne : ¬ goesOn got := by rw [hg]; exact goes_end no l hl
    refine ⟨s, ?_, by simpa [stuffed] using hp⟩
    rw [readLoop, if_pos hgl, hn, Option.bind_some, if_neg (fun e => hne (hc.mp e)), hg]
  | b :: p', got, s, i, m, hg, hp, h0, h4, hd, hm => by
    have hpl := plainS_length no l
    obtain ⟨m, rfl⟩ : ∃ j, m = j + 1 := ⟨m - 1, by simp at hm; omega⟩
    have hglen : got.length < (plainS no l).length := by rw [← hg]; simp
    have htake : got = (plainS no l).take got.length := by rw [← hg, List.take_left]
    have hrd : rd (plainS no l) (got.length : Int) = b := by
      have : rd (got ++ b :: p') ((got.length + 0 : Nat) : Int) = rd (b :: p') ((0 : Nat) : Int) := rd_right got (b :: p') got.length 0 rfl
      rw [hg] at this
      exact this
    have hb01 := plainS_bit no l
    have hgb : Bits01 got := by rw [htake]; exact Bits01.take hb01 _
    have hbb : b = 0 ∨ b = 1 := hb01 b (by rw [← hg]; simp)
    have hgl : got.length ≤ 1000 := by omega
    have hgo : goesOn got := by rw [htake]; exact goes_take no l hl _ hglen
    have hdue := due_take no l hl got.length hglen
    rw [← htake, hrd] at hdue
    obtain ⟨n, hn, hc⟩ := cond_eq got hgb (by omega)
    have ew : wrap64 (1 - b) = 1 - b := w64 _ (by omega) (by omega)
    -- the bit that is read
    have hhead : ∃ t, x.drop i = b :: t := by
      obtain ⟨t, ht⟩ := stuffed_hd b p' s.bit s.many
      exact ⟨t ++ rest, by rw [hd, ht]; rfl⟩
    obtain ⟨t, ht⟩ := hhead
    have hi : i < x.length := by
      rcases Nat.lt_or_ge i x.length with h | h
      · exact h
      · rw [List.drop_eq_nil_of_le h] at ht; cases ht
    have hx : rd x (i : Int) = b := by
      have := drop_rd x i hi
      rw [ht] at this
      simp only [List.cons.injEq] at this
      exact this.1.symm
    have hx1 : x.drop (i + 1) = t := by
      have := drop_rd x i hi
      rw [ht] at this
      simp only [List.cons.injEq] at this
      exact this.2.symm
    have hnx : nextOk x (i : Int) (dueS got) = true := (nextOk_nat x i _ (by omega)).mpr ⟨hi, by rw [hx]; exact hdue⟩
    have hstep : s.step x = ⟨((i + 1 : Nat) : Int), (put1 s.bit s.many b).1, (put1 s.bit s.many b).2⟩ := by
      unfold Rd.step
      rw [hp, hx]
      rfl
    have hg' : (got ++ [b]) ++ p' = plainS no l := by rw [← hg]; simp
    have hm' : p'.length ≤ m := by simpa using hm
    rw [readLoop, if_pos hgl, hn, Option.bind_some, if_pos (hc.mpr hgo), due_eq got hgb (by omega) hgo 300 (by omega), Option.bind_some, hp, if_pos hnx, hx]
    rcases stuffed_cons b s.bit s.many p' hbb h0 h4 with ⟨h1, h2, h3⟩ | ⟨m', h2, h3, h5, _, h6⟩
    · have hput : put1 s.bit s.many b = (b, 5) := by
        unfold put1; rw [if_pos (by omega), if_pos h2, h1, h2, w64 _ (by omega) (by omega)]; rfl
      rw [h3] at hd
      have hst : s.step x = ⟨((i + 1 : Nat) : Int), b, 5⟩ := by rw [hstep, hput]
      have ht2 : t = (1 - b) :: (stuffed p' (1 - b) 1 ++ rest) := by
        rw [ht] at hd
        simp only [List.cons_append, List.cons.injEq] at hd
        exact hd.2
      have hi1 : i + 1 < x.length := by
        rcases Nat.lt_or_ge (i + 1) x.length with h | h
        · exact h
        · rw [List.drop_eq_nil_of_le h] at hx1; rw [← hx1] at ht2; cases ht2
      have h7 := drop_rd x (i + 1) hi1
      rw [hx1, ht2] at h7
      simp only [List.cons.injEq] at h7
      have hnx2 : nextOk x ((i + 1 : Nat) : Int) (1 - b) = true := (nextOk_nat x (i + 1) _ (by omega)).mpr ⟨hi1, .inr h7.1.symm⟩
      have hput2 : put1 b 5 (1 - b) = (1 - b, 1) := by
        unfold put1; rw [if_pos (by omega), if_neg (by omega)]
      have hst2 : (s.step x).step x = ⟨((i + 2 : Nat) : Int), 1 - b, 1⟩ := by
        rw [hst]
        unfold Rd.step
        show (⟨((i + 1 : Nat) : Int) + 1, (put1 b 5 (rd x ((i + 1 : Nat) : Int))).1, (put1 b 5 (rd x ((i + 1 : Nat) : Int))).2⟩ : Rd) = _
        rw [← h7.1, hput2]
        rfl
      obtain ⟨s', r1, r2⟩ := read_back x rest p' (got ++ [b]) ((s.step x).step x) (i + 2) m hg' (by rw [hst2]) (by rw [hst2]; show (0 : Int) ≤ 1; decide) (by rw [hst2]; show (1 : Int) ≤ 4; decide) (by rw [hst2]; exact h7.2.symm) hm'
      rw [if_pos (by rw [hst]), hst, ew, if_pos hnx2, ← hst]
      refine ⟨s', r1, ?_⟩
      rw [r2, hst2, h3]
      simp only [List.length_cons]
      congr 1
      omega
    · have hst : s.step x = ⟨((i + 1 : Nat) : Int), b, m'⟩ := by rw [hstep, h2]
      rw [h6] at hd
      have ht2 : t = stuffed p' b m' ++ rest := by
        rw [ht] at hd
        simp only [List.cons_append, List.cons.injEq] at hd
        exact hd.2
      obtain ⟨s', r1, r2⟩ := read_back x rest p' (got ++ [b]) (s.step x) (i + 1) m hg' (by rw [hst]) (by rw [hst]; show (0 : Int) ≤ m'; omega) (by rw [hst]; exact h5) (by rw [hst, hx1]; exact ht2) hm'
      have hn5 : ¬ (s.step x).many = 5 := by rw [hst]; show ¬ m' = 5; omega
      rw [if_neg hn5]
      refine ⟨s', r1, ?_⟩
      rw [r2, hst, h6]
      simp only [List.length_cons]
      congr 1
      omega
end
theorem tail_back (x : List Int) : ∀ (t rest : List Int) (s : Rd) (i : Nat), s.pos = (i : Int) → x.drop i = t ++ rest → ∃ s', tailLoop x t true s = (true, s') ∧ s'.pos = ((i + t.length : Nat) : Int)
  | [], rest, s, i, hp, hd => ⟨s, rfl, hp⟩
  | b :: t, rest, s, i, hp, hd => by
    have hi : i < x.length := by
      rcases Nat.lt_or_ge i x.length with h | h
      · exact h
      · rw [List.drop_eq_nil_of_le h] at hd; cases hd
    have h1 := drop_rd x i hi
    rw [hd] at h1
    simp only [List.cons_append, List.cons.injEq] at h1
    have hnx : nextOk x (i : Int) b = true := (nextOk_nat x i _ (by omega)).mpr ⟨hi, .inr h1.1.symm⟩
    have hp2 : (s.step x).pos = ((i + 1 : Nat) : Int) := by
      show s.pos + 1 = _
      omega
    obtain ⟨s', r1, r2⟩ := tail_back x t rest (s.step x) (i + 1) hp2 h1.2.symm
    refine ⟨s', ?_, ?_⟩
    · rw [tailLoop, if_pos rfl, hp, if_pos hnx, r1]
    · rw [r2]; simp only [List.length_cons]; congr 1; omega
theorem tail_cut (x : List Int) (b : Int) (t2 : List Int) : ∀ (t : List Int) (s : Rd) (i : Nat), s.pos = (i : Int) → i ≤ x.length → x.drop i = t → ∃ s', tailLoop x (t ++ b :: t2) true s = (false, s') ∧ s'.pos = ((i + t.length : Nat) : Int)
  | [], s, i, hp, hi, hd => by
    have hil : i = x.length := by
      have := congrArg List.length hd
      rw [List.length_drop] at this
      simp at this
      omega
    have hnx : ¬ nextOk x (i : Int) b = true := fun e => by
      have := (nextOk_nat x i _ hi).mp e
      omega
    refine ⟨s, ?_, hp⟩
    show tailLoop x (b :: t2) true s = _
    rw [tailLoop, if_pos rfl, hp, if_neg hnx, tail_false]
  | c :: t, s, i, hp, hi, hd => by
    have hi2 : i < x.length := by
      rcases Nat.lt_or_ge i x.length with h | h
      · exact h
      · rw [List.drop_eq_nil_of_le h] at hd; cases hd
    have h1 := drop_rd x i hi2
    rw [hd] at h1
    simp only [List.cons.injEq] at h1
    have hnx : nextOk x (i : Int) c = true := (nextOk_nat x i _ (by omega)).mpr ⟨hi2, .inr h1.1.symm⟩
    have hp2 : (s.step x).pos = ((i + 1 : Nat) : Int) := by
      show s.pos + 1 = _
      omega
    obtain ⟨s', r1, r2⟩ := tail_cut x b t2 t (s.step x) (i + 1) hp2 (by omega) h1.2.symm
    refine ⟨s', ?_, ?_⟩
    · show tailLoop x (c :: (t ++ b :: t2)) true s = _
      rw [tailLoop, if_pos rfl, hp, if_pos hnx, r1]
    · rw [r2]; simp only [List.length_cons]; congr 1; omega
theorem binB_of (l : List Int) (hl : l.length ≤ 200) (hb : Bits01 l) : binB l = true := by
  unfold binB
  rw [decide_eq_true hl, Bool.true_and, Bool.not_eq_eq_eq_not, Bool.not_true, List.any_eq_false]
  intro x hx
  rcases hb x hx with rfl | rfl <;> decide
theorem bitsS_01 (no : Nat) (l : List Int) : Bits01 (bitsS no l) := by
  have key : ∀ (p : List Int), Bits01 p → ∀ bit many, Bits01 (stuffed p bit many) := by
    intro p
    induction p with
    | nil => intro _ bit many x hx; simp [stuffed] at hx
    | cons b p ih =>
      intro hp bit many x hx
      have hb := hp b List.mem_cons_self
      have hp' : Bits01 p := fun x hx => hp x (List.mem_cons_of_mem _ hx)
      have e : wrap64 (1 - b) = 1 - b := w64 _ (by omega) (by omega)
      rw [stuffed] at hx
      split at hx
      · simp only [List.mem_cons] at hx
        rcases hx with rfl | rfl | hx
        · exact hb
        · rw [e]; omega
        · exact ih hp' _ _ x hx
      · simp only [List.mem_cons] at hx
        rcases hx with rfl | hx
        · exact hb
        · exact ih hp' _ _ x hx
  intro x hx
  rw [bitsS, List.mem_append] at hx
  rcases hx with h | h
  · exact key _ (plainS_bit no l) 0 0 x h
  · exact tailD_bits x h
/-- Read of Bits, whatever bits follow. -/
theorem Read_back (no : Nat) (l more : List Int) (hno : no < 2048) (hl : l.length ≤ 8) (hb : bytesB l = true) (hm : Bits01 more) (hml : more.length ≤ 30) : bus_Read.f (bitsS no l ++ more) = some ((no : Int), l, ((bitsS no l).length : Int), 0) := by
  have hsh := bitsS_short no l
  have hpl := plainS_length no l
  have hbin : binB (bitsS no l ++ more) = true := binB_of _ (by simp only [List.length_append]; omega) (fun x hx => by
    rw [List.mem_append] at hx
    rcases hx with h | h
    · exact bitsS_01 no l x h
    · exact hm x h)
  obtain ⟨s, h1, h2⟩ := read_back no l hl (bitsS no l ++ more) (tailD ++ more) (plainS no l) [] ⟨0, 0, 0⟩ 0 199 (by simp) rfl (by decide) (by decide) (by simp [bitsS]) (by omega)
  replace h2 : s.pos = ((0 + (stuffed (plainS no l) 0 0).length : Nat) : Int) := h2
  rw [Nat.zero_add] at h2
  obtain ⟨s', h3, h4⟩ := tail_back (bitsS no l ++ more) tailD more s _ h2 (by
    have e : bitsS no l ++ more = stuffed (plainS no l) 0 0 ++ (tailD ++ more) := by simp [bitsS]
    rw [e]
    exact drop_app _ _ _ rfl)
  have e3 : ((plainS no l).take 12).drop 1 = ((plainS no l).drop 1).take 11 := by rw [List.drop_take]
  have hb01 : Bits01 (plainS no l) := plainS_bit no l
  have eno : bus_number.f 300 (((plainS no l).take 12).drop 1) = some (no : Int) := by
    rw [e3, bus_number_eq _ ((hb01.drop 1).take 11) (by rw [List.length_take]; omega) 300 (by rw [List.length_take]; omega), plain_no no l hno]
  have enb : bus_bytesOf.f 300 (plainS no l) = some ((l.length : Nat) : Int) := by rw [bytesOf_eq _ hb01 300 (by omega), if_neg (by omega), plain_nb no l hl]
  have ed : dataLoop (plainS no l) ((l.length : Nat) : Int) 20 0 [] = some l := by
    have := data_bus (plainS no l) hb01 l.length (by omega) (by omega) l.length 0 20 [] (by omega) (by omega) (by omega)
    rw [plain_bytes no l hb l.length 0 (by omega) (by omega)] at this
    simpa using this
  unfold bus_Read.f
  rw [binary_eq, Option.bind_some, if_pos hbin, h1, Option.bind_some]
  show (if (tailLoop (bitsS no l ++ more) tailD true s).1 = true then
      (if 12 ≤ (plainS no l).length ∧ (plainS no l).length ≤ 1000 then
      (bus_number.f 300 (((plainS no l).take 12).drop 1)).bind fun no' =>
      (bus_bytesOf.f 300 (plainS no l)).bind fun n =>
      (dataLoop (plainS no l) n 20 0 []).bind fun d => some (no', d, (tailLoop (bitsS no l ++ more) tailD true s).2.pos, 0) else none)
    else some (0, [], (tailLoop (bitsS no l ++ more) tailD true s).2.pos, 5)) = _
  rw [h3, if_pos rfl, if_pos ⟨by omega, by omega⟩]
  have e13 : (bitsS no l).length = (stuffed (plainS no l) 0 0).length + tailD.length := by simp [bitsS]
  rw [eno, Option.bind_some, enb, Option.bind_some, ed, Option.bind_some]
  show some ((no : Int), l, s'.pos, 0) = _
  rw [h4, e13]
/-- Read of Bits without the last one. -/
theorem Read_cut (no : Nat) (l : List Int) (hl : l.length ≤ 8) : bus_Read.f ((bitsS no l).take ((bitsS no l).length - 1)) = some (0, [], ((bitsS no l).length : Int) - 1, 5) := by
  have hsh := bitsS_short no l
  have hpl := plainS_length no l
  have e13 : (bitsS no l).length = (stuffed (plainS no l) 0 0).length + 13 := by simp [bitsS, tailD_length]
  have ex : (bitsS no l).take ((bitsS no l).length - 1) = stuffed (plainS no l) 0 0 ++ tailD.take 12 := by
    have e : (bitsS no l).length - 1 = (stuffed (plainS no l) 0 0).length + 12 := by omega
    rw [e, bitsS, List.take_append, List.take_of_length_le (by omega)]
    congr 2
    omega
  have hbin : binB ((bitsS no l).take ((bitsS no l).length - 1)) = true := binB_of _ (by rw [List.length_take]; omega) ((bitsS_01 no l).take _)
  rw [ex] at hbin ⊢
  obtain ⟨s, h1, h2⟩ := read_back no l hl (stuffed (plainS no l) 0 0 ++ tailD.take 12) (tailD.take 12) (plainS no l) [] ⟨0, 0, 0⟩ 0 199 (by simp) rfl (by decide) (by decide) (by simp) (by omega)
  replace h2 : s.pos = ((0 + (stuffed (plainS no l) 0 0).length : Nat) : Int) := h2
  rw [Nat.zero_add] at h2
  obtain ⟨s', h3, h4⟩ := tail_cut (stuffed (plainS no l) 0 0 ++ tailD.take 12) 1 [] (tailD.take 12) s _ h2 (by rw [List.length_append]; omega) (drop_app _ _ _ rfl)
  have et : tailD.take 12 ++ 1 :: [] = tailD := by decide
  rw [et] at h3
  unfold bus_Read.f
  rw [binary_eq, Option.bind_some, if_pos hbin, h1, Option.bind_some]
  show (if (tailLoop (stuffed (plainS no l) 0 0 ++ tailD.take 12) tailD true s).1 = true then _ else some (0, [], (tailLoop (stuffed (plainS no l) 0 0 ++ tailD.take 12) tailD true s).2.pos, 5)) = _
  rw [h3, if_neg (by simp)]
  have e12 : (tailD.take 12).length = 12 := by decide
  show some (0, [], s'.pos, 5) = _
  have e : s'.pos = ((bitsS no l).length : Int) - 1 := by
    rw [h4, e12, e13]; omega
  rw [e]
end Go.Proofs.YtbanemecfobonaaDoor.B
