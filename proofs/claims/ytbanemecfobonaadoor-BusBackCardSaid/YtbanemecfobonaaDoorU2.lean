/- Plain facts on frames: the program's bits and the specification's are one function of the frame. -/
import Derived.Test.YtbanemecfobonaaDoorU1
import Derived.Test.YtbanemecfobonaaDoorBRB
import Derived.Test.YtbanemecfobonaaDoorXM1
namespace Go.Proofs.YtbanemecfobonaaDoor.B
open Go.RowKit Go.Proofs.YtbanemecfobonaaDoorW.PrintWords Go.Proofs.YtbanemecfobonaaDoorW.PrintLast Go.Proofs.YtbanemecfobonaaDoorW.PrintMore
set_option linter.unusedVariables false
set_option linter.unusedSimpArgs false

/-- A number in so many bits, the highest first. -/
def wrN (n : Nat) : Nat → List Int
  | 0 => []
  | m + 1 => ((n / 2 ^ m % 2 : Nat) : Int) :: wrN n m
theorem wrN_length (n m : Nat) : (wrN n m).length = m := by
  induction m with
  | zero => rfl
  | succ m ih => simp [wrN, ih]
theorem shr_nat (n k : Nat) (hn : n < 32768) (hk : k < 64) : shr .i64 (n : Int) (k : Int) = ((n / 2 ^ k : Nat) : Int) := by
  show (n : Int) / 2 ^ min ((k : Int)).toNat 64 = _
  rw [Int.toNat_natCast, Nat.min_eq_left (by omega), Int.natCast_ediv, Int.natCast_pow]
  rfl
theorem i64_and1 (a : Nat) (ha : a < 32768) : Go.bits .and .i64 (a : Int) 1 = ((a % 2 : Nat) : Int) := by
  show IntKind.i64.wrap ((BitVec.ofInt 64 (a : Int) &&& BitVec.ofInt 64 ((1 : Nat) : Int)).toNat : Int) = _
  have e1 : (BitVec.ofInt 64 (a : Int)).toNat = a := by rw [BitVec.ofInt_natCast, BitVec.toNat_ofNat]; exact Nat.mod_eq_of_lt (by omega)
  have e2 : (BitVec.ofInt 64 ((1 : Nat) : Int)).toNat = 2 ^ 1 - 1 := by rw [BitVec.ofInt_natCast, BitVec.toNat_ofNat]
  rw [BitVec.toNat_and, e1, e2, Nat.and_two_pow_sub_one_eq_mod]
  simp [IntKind.wrap, IntKind.bits, IntKind.signed]
  omega

theorem written_l0 (n : Nat) (hn : n < 32768) : ∀ (m k : Nat) (l : List Int), m < k → m ≤ 40 → l.length + m ≤ 1000000 → neonwrightref08_written.l0 k l (n : Int) ((m : Int) - 1) = some (l ++ wrN n m)
  | 0, k + 1, l, _, _, _ => by
    unfold neonwrightref08_written.l0
    rw [if_neg (by omega)]
    simp [wrN]
  | m + 1, k + 1, l, hk, hm, hl => by
    unfold neonwrightref08_written.l0
    have e1 : (((m + 1 : Nat) : Int) - 1) = (m : Int) := by omega
    have e2 : wrap64 ((m : Int) - 1) = (m : Int) - 1 := w64 _ (by omega) (by omega)
    have hlt : n / 2 ^ m ≤ n := Nat.div_le_self _ _
    have e3 : Int.tmod (shr .i64 (n : Int) (m : Int)) 2 = ((n / 2 ^ m % 2 : Nat) : Int) := by
      rw [shr_nat n m hn (by omega), Int.tmod_eq_emod_of_nonneg (Int.natCast_nonneg _)]; generalize n / 2 ^ m = q; omega
    rw [e1, if_pos (by omega), if_pos (by omega), if_pos (by omega), e2, e3, written_l0 n hn m k _ (by omega) (by omega) (by simp; omega)]
    simp [wrN]
theorem written_eq (n m k : Nat) (l : List Int) (hn : n < 32768) (hk : m < k) (hm : m ≤ 40) (hl : l.length + m ≤ 1000000) : neonwrightref08_written.f k l (n : Int) (m : Int) = some (l ++ wrN n m) := by
  unfold neonwrightref08_written.f
  rw [w64 _ (by omega) (by omega)]
  exact written_l0 n hn m k l hk hm hl
theorem appended_l0 (n : Nat) (hn : n < 32768) : ∀ (m k : Nat) (l : List Int), m < k → m ≤ 40 → l.length + m ≤ 1000000 → bus_appended.l0 k l (n : Int) ((m : Int) - 1) = some (l ++ wrN n m)
  | 0, k + 1, l, _, _, _ => by
    unfold bus_appended.l0
    rw [if_neg (by omega)]
    simp [wrN]
  | m + 1, k + 1, l, hk, hm, hl => by
    unfold bus_appended.l0
    have e1 : (((m + 1 : Nat) : Int) - 1) = (m : Int) := by omega
    have e2 : wrap64 ((m : Int) - 1) = (m : Int) - 1 := w64 _ (by omega) (by omega)
    have hlt : n / 2 ^ m ≤ n := Nat.div_le_self _ _
    have e3 : Go.bits .and .i64 (shr .i64 (n : Int) (m : Int)) 1 = ((n / 2 ^ m % 2 : Nat) : Int) := by
      rw [shr_nat n m hn (by omega), i64_and1 _ (by omega)]
    rw [e1, if_pos (by omega), if_pos (by omega), if_pos (by omega), e2, e3, appended_l0 n hn m k _ (by omega) (by omega) (by simp; omega)]
    simp [wrN]
theorem appended_eq (n m k : Nat) (l : List Int) (hn : n < 32768) (hk : m < k) (hm : m ≤ 40) (hl : l.length + m ≤ 1000000) : bus_appended.f k l (n : Int) (m : Int) = some (l ++ wrN n m) := by
  unfold bus_appended.f
  rw [w64 _ (by omega) (by omega)]
  exact appended_l0 n hn m k l hk hm hl

/-- Are these bytes? -/
def bytesB (l : List Int) : Bool := !l.any (fun x => decide (x < 0) || decide (255 < x))
/-- The bits of bytes. -/
def dataS (l : List Int) : List Int := (l.map fun b => wrN b.toNat 8).flatten
/-- The plain bits ahead of the check. -/
def headS (no : Nat) (data : List Int) : List Int := 0 :: (wrN no 11 ++ (0 :: 0 :: 0 :: (wrN data.length 4 ++ dataS data)))
/-- The plain bits of a frame. -/
def plainS (no : Nat) (data : List Int) : List Int := headS no data ++ wrN (chk (headS no data)) 15
theorem dataS_length (l : List Int) : (dataS l).length = 8 * l.length := by
  induction l with
  | nil => rfl
  | cons b l ih =>
    have e : dataS (b :: l) = wrN b.toNat 8 ++ dataS l := by simp [dataS]
    rw [e, List.length_append, ih, wrN_length]; simp; omega
theorem headS_length (no : Nat) (l : List Int) : (headS no l).length = 19 + 8 * l.length := by
  simp [headS, wrN_length, dataS_length]; omega
theorem plainS_length (no : Nat) (l : List Int) : (plainS no l).length = 34 + 8 * l.length := by
  rw [plainS, List.length_append, headS_length, wrN_length]; omega
theorem dataS_cons (b : Int) (l : List Int) : dataS (b :: l) = wrN b.toNat 8 ++ dataS l := by simp [dataS]
theorem byte_of (l : List Int) (h : bytesB l = true) (i : Nat) (hi : i < l.length) : 0 ≤ rd l (i : Int) ∧ rd l (i : Int) ≤ 255 := by
  have e : rd l (i : Int) = l[i] := by
    show l.getD ((i : Int)).toNat 0 = _
    rw [List.getD_eq_getElem?_getD, Int.toNat_natCast, List.getElem?_eq_getElem hi]; rfl
  rw [e]
  have h2 : l.any (fun x => decide (x < 0) || decide (255 < x)) = false := by simpa [bytesB] using h
  have := List.any_eq_false.1 h2 l[i] (List.getElem_mem hi)
  simp at this
  omega

theorem ref_plain_l0 (no : Int) (l : List Int) (hl : l.length ≤ 40) (hb : bytesB l = true) : ∀ (k i : Nat) (x : List Int), i ≤ l.length → l.length - i + 60 < k → x.length + 8 * (l.length - i) ≤ 1000 → x.length + 9 * (l.length - i) + 50 < k →
    neonwrightref08_Plain.l0 k x (i : Int) no l = some ((x ++ dataS (l.drop i)) ++ wrN (chk (x ++ dataS (l.drop i))) 15)
  | 0, _, _, _, h, _, _ => by omega
  | k + 1, i, x, hi, hk, hx, hk2 => by
    unfold neonwrightref08_Plain.l0
    by_cases h : i < l.length
    · have e3 : wrap64 ((i : Int) + 1) = ((i + 1 : Nat) : Int) := by rw [w64 _ (by omega) (by omega)]; omega
      obtain ⟨h0, h1⟩ := byte_of l hb i h
      obtain ⟨b, hbb⟩ : ∃ b : Nat, rd l (i : Int) = (b : Int) := ⟨(rd l (i : Int)).toNat, by omega⟩
      have ew : neonwrightref08_written.f k x (rd l (i : Int)) 8 = some (x ++ wrN b 8) := by
        rw [hbb]; exact written_eq b 8 k x (by omega) (by omega) (by omega) (by omega)
      rw [if_pos (by omega), if_pos (by omega), ew, Option.bind_some, e3, ref_plain_l0 no l hl hb k (i + 1) _ (by omega) (by omega) (by simp [wrN_length]; omega) (by simp [wrN_length]; omega), drop_rd l i h, dataS_cons, hbb, Int.toNat_natCast]
      simp
    · have e : dataS (l.drop i) = [] := by rw [List.drop_eq_nil_of_le (by omega)]; rfl
      have ew : neonwrightref08_written.f k x ((chk x : Nat) : Int) 15 = some (x ++ wrN (chk x) 15) := written_eq (chk x) 15 k x (chk_lt x) (by omega) (by omega) (by omega)
      rw [if_neg (by omega), e, List.append_nil, ref_check x (by omega) k (by omega), Option.bind_some, ew]
      rfl
theorem bus_plain_l0 (l : List Int) (hl : l.length ≤ 40) (hb : bytesB l = true) : ∀ (k i : Nat) (x : List Int), i ≤ l.length → l.length - i + 60 < k → x.length + 8 * (l.length - i) ≤ 1000 → x.length + 9 * (l.length - i) + 50 < k →
    bus_plain.l0 k x l (l.length : Int) (i : Int) = some ((x ++ dataS (l.drop i)) ++ wrN (chk (x ++ dataS (l.drop i))) 15)
  | 0, _, _, _, h, _, _ => by omega
  | k + 1, i, x, hi, hk, hx, hk2 => by
    unfold bus_plain.l0
    by_cases h : i < l.length
    · have e3 : wrap64 ((i : Int) + 1) = ((i + 1 : Nat) : Int) := by rw [w64 _ (by omega) (by omega)]; omega
      obtain ⟨h0, h1⟩ := byte_of l hb i h
      obtain ⟨b, hbb⟩ : ∃ b : Nat, rd l (i : Int) = (b : Int) := ⟨(rd l (i : Int)).toNat, by omega⟩
      have ew : bus_appended.f k x (rd l (i : Int)) 8 = some (x ++ wrN b 8) := by
        rw [hbb]; exact appended_eq b 8 k x (by omega) (by omega) (by omega) (by omega)
      rw [if_pos (by omega), if_pos (by omega), if_pos (by omega), ew, Option.bind_some, e3, bus_plain_l0 l hl hb k (i + 1) _ (by omega) (by omega) (by simp [wrN_length]; omega) (by simp [wrN_length]; omega), drop_rd l i h, dataS_cons, hbb, Int.toNat_natCast]
      simp
    · have e : dataS (l.drop i) = [] := by rw [List.drop_eq_nil_of_le (by omega)]; rfl
      have ew : bus_appended.f k x ((chk x : Nat) : Int) 15 = some (x ++ wrN (chk x) 15) := appended_eq (chk x) 15 k x (chk_lt x) (by omega) (by omega) (by omega)
      rw [if_neg (by omega), e, List.append_nil, bus_check_eq x (by omega) k (by omega), Option.bind_some, ew]
      rfl
theorem ref_Plain_eq (no : Nat) (l : List Int) (hno : no < 32768) (hl : l.length ≤ 8) (hb : bytesB l = true) (k : Nat) (hk : 250 ≤ k) : neonwrightref08_Plain.f k (no : Int) l = some (plainS no l) := by
  unfold neonwrightref08_Plain.f
  have e0 : neonwrightref08_written.f k ([0] : List Int) (no : Int) 11 = some ([0] ++ wrN no 11) := written_eq no 11 k _ hno (by omega) (by omega) (by simp)
  have e1 : neonwrightref08_written.f k ([0] ++ wrN no 11) 0 3 = some ([0] ++ wrN no 11 ++ wrN 0 3) := written_eq 0 3 k _ (by omega) (by omega) (by omega) (by simp [wrN_length])
  have e2 : neonwrightref08_written.f k ([0] ++ wrN no 11 ++ wrN 0 3) (l.length : Int) 4 = some ([0] ++ wrN no 11 ++ wrN 0 3 ++ wrN l.length 4) := written_eq l.length 4 k _ (by omega) (by omega) (by omega) (by simp [wrN_length])
  have e3 := ref_plain_l0 (no : Int) l (by omega) hb k 0 ([0] ++ wrN no 11 ++ wrN 0 3 ++ wrN l.length 4) (by omega) (by omega) (by simp [wrN_length]; omega) (by simp [wrN_length]; omega)
  rw [e0, Option.bind_some, e1, Option.bind_some, e2, Option.bind_some]
  refine e3.trans ?_
  simp [plainS, headS, wrN]
theorem bus_plain_eq (no : Nat) (l : List Int) (hno : no < 32768) (hl : l.length ≤ 8) (hb : bytesB l = true) (k : Nat) (hk : 250 ≤ k) : bus_plain.f k (no : Int) l = some (plainS no l) := by
  unfold bus_plain.f
  have e0 : bus_appended.f k ([0] : List Int) (no : Int) 11 = some ([0] ++ wrN no 11) := appended_eq no 11 k _ hno (by omega) (by omega) (by simp)
  have e2 : bus_appended.f k ([0] ++ wrN no 11 ++ [0, 0, 0]) (l.length : Int) 4 = some ([0] ++ wrN no 11 ++ [0, 0, 0] ++ wrN l.length 4) := appended_eq l.length 4 k _ (by omega) (by omega) (by omega) (by simp [wrN_length])
  have e3 := bus_plain_l0 l (by omega) hb k 0 ([0] ++ wrN no 11 ++ [0, 0, 0] ++ wrN l.length 4) (by omega) (by omega) (by simp [wrN_length]; omega) (by simp [wrN_length]; omega)
  rw [e0, Option.bind_some, Option.bind_some, if_pos (by simp [wrN_length]), e2, Option.bind_some]
  refine e3.trans ?_
  simp [plainS, headS]

/-- The bits of a frame. -/
def bitsS (no : Nat) (data : List Int) : List Int := stuffed (plainS no data) 0 0 ++ tailD
theorem wrN_bit (n m : Nat) : ∀ x ∈ wrN n m, x = 0 ∨ x = 1 := by
  induction m with
  | zero => intro x hx; simp [wrN] at hx
  | succ m ih =>
    intro x hx
    simp only [wrN, List.mem_cons] at hx
    rcases hx with rfl | hx
    · generalize n / 2 ^ m = q; omega
    · exact ih x hx
theorem dataS_bit (l : List Int) : ∀ x ∈ dataS l, x = 0 ∨ x = 1 := by
  induction l with
  | nil => intro x hx; simp [dataS] at hx
  | cons b l ih =>
    intro x hx
    rw [dataS_cons, List.mem_append] at hx
    rcases hx with hx | hx
    · exact wrN_bit _ _ x hx
    · exact ih x hx
theorem headS_bit (no : Nat) (l : List Int) : ∀ x ∈ headS no l, x = 0 ∨ x = 1 := by
  intro x hx
  simp only [headS, List.mem_cons, List.mem_append] at hx
  rcases hx with h | h | h | h | h | h | h
  · exact .inl h
  · exact wrN_bit _ _ x h
  · exact .inl h
  · exact .inl h
  · exact .inl h
  · exact wrN_bit _ _ x h
  · exact dataS_bit _ x h
theorem plainS_bit (no : Nat) (l : List Int) : ∀ x ∈ plainS no l, x = 0 ∨ x = 1 := by
  intro x hx
  rw [plainS, List.mem_append] at hx
  rcases hx with h | h
  · exact headS_bit no l x h
  · exact wrN_bit _ _ x h

/-- What the specification's loop knows of the bits that are out: the last one and how many alike came last. -/
def Row (out : List Int) (run : Int) (bit many : Int) : Prop :=
  (out = [] ∧ many = 0) ∨ (out ≠ [] ∧ rd out ((out.length : Int) - 1) = bit ∧ many = run ∧ 1 ≤ many ∧ many ≤ 4)
theorem rd_last (out : List Int) (b : Int) : rd (out ++ [b]) (((out ++ [b]).length : Int) - 1) = b := by
  have e : (((out ++ [b]).length : Int) - 1).toNat = out.length := by simp
  show (out ++ [b]).getD _ 0 = b
  rw [e]; simp
theorem stuffed_five (b bit many bn b2 m2 : Int) (l : List Int) (h : put1 bit many b = (bn, 5)) (h2 : put1 bn 5 (wrap64 (1 - b)) = (b2, m2)) : stuffed (b :: l) bit many = b :: wrap64 (1 - b) :: stuffed l b2 m2 := by
  rw [stuffed, h]
  show (if (5 : Int) = 5 then _ else _) = _
  rw [if_pos rfl, h2]
theorem stuffed_else (b bit many bn mn : Int) (l : List Int) (h : put1 bit many b = (bn, mn)) (hm : mn ≠ 5) : stuffed (b :: l) bit many = b :: stuffed l bn mn := by
  rw [stuffed, h]
  exact if_neg hm
theorem ref_bits_l0 (p : List Int) (hp : p.length ≤ 1000) (hb : ∀ x ∈ p, x = 0 ∨ x = 1) : ∀ (n i k : Nat) (out : List Int) (run bit many : Int), p.length - i = n → i ≤ p.length → 2 * n < k → out.length ≤ 2 * i → Row out run bit many →
    neonwrightref08_bits.l0 k p out run (i : Int) = some (out ++ stuffed (p.drop i) bit many ++ tailD) := by
  intro n
  induction n with
  | zero =>
    intro i k out run bit many hn hi hk ho hr
    obtain ⟨k, rfl⟩ : ∃ j, k = j + 1 := ⟨k - 1, by omega⟩
    unfold neonwrightref08_bits.l0
    have e : p.drop i = [] := List.drop_eq_nil_of_le (by omega)
    have et : neonwrightref08_tail.f = some tailD := rfl
    rw [if_neg (by omega), e, et, Option.bind_some, if_pos (by rw [tailD_length]; omega)]
    simp [stuffed]
  | succ n ih =>
    intro i k out run bit many hn hi hk ho hr
    obtain ⟨k, rfl⟩ : ∃ j, k = j + 2 := ⟨k - 2, by omega⟩
    have hlt : i < p.length := by omega
    have hbit : rd p (i : Int) = 0 ∨ rd p (i : Int) = 1 := by
      have e : rd p (i : Int) = p[i] := by
        show p.getD ((i : Int)).toNat 0 = _
        rw [List.getD_eq_getElem?_getD, Int.toNat_natCast, List.getElem?_eq_getElem hlt]; rfl
      rw [e]; exact hb _ (List.getElem_mem hlt)
    have e3 : wrap64 ((i : Int) + 1) = ((i + 1 : Nat) : Int) := by rw [w64 _ (by omega) (by omega)]; omega
    have hstart : neonwrightref08_bits.l0 (k + 2) p out run (i : Int) = neonwrightref08_bits.j1 (k + 1) p out run (i : Int) (decide (many > 0) && decide (bit = rd p (i : Int))) := by
      rw [neonwrightref08_bits.l0, if_pos (by omega)]
      rcases hr with ⟨rfl, rfl⟩ | ⟨h1, h2, h3, h4, h5⟩
      · rw [if_neg (by simp)]; rfl
      · have hpos : 0 < out.length := List.length_pos_iff.mpr h1
        have e1 : wrap64 ((out.length : Int) - 1) = (out.length : Int) - 1 := w64 _ (by omega) (by omega)
        rw [if_pos (by omega), e1, if_pos (by omega), if_pos (by omega), if_pos (by omega), h2]
        have e4 : decide (many > 0) = true := decide_eq_true (by omega)
        rw [e4, Bool.true_and]
        congr 1
    rw [hstart, drop_rd p i hlt]
    obtain ⟨b, hbb⟩ : ∃ b, rd p (i : Int) = b := ⟨_, rfl⟩
    rw [hbb] at hbit ⊢
    have e1b : wrap64 (1 - b) = 1 - b := w64 _ (by omega) (by omega)
    by_cases hsame : many > 0 ∧ bit = b
    · obtain ⟨hm, hbe⟩ := hsame
      obtain ⟨h1, h2, h3, h4, h5⟩ : out ≠ [] ∧ rd out ((out.length : Int) - 1) = bit ∧ many = run ∧ 1 ≤ many ∧ many ≤ 4 := by
        rcases hr with ⟨_, h⟩ | h
        · omega
        · exact h
      have ep : put1 bit many b = (b, many + 1) := by
        unfold put1; rw [if_pos hm, if_pos hbe, w64 _ (by omega) (by omega), hbe]
      have er : wrap64 (run + 1) = many + 1 := by rw [w64 _ (by omega) (by omega), h3]
      have et : (decide (many > 0) && decide (bit = b)) = true := by simp [hm, hbe]
      rw [et, neonwrightref08_bits.j1, if_pos rfl, if_pos (by omega), if_pos (by omega), if_pos (by omega), Option.bind_some, hbb, er, e3, e1b]
      by_cases h5 : many + 1 = 5
      · have ep2 : put1 b 5 (wrap64 (1 - b)) = (1 - b, 1) := by
          rw [e1b]; unfold put1; rw [if_pos (by omega), if_neg (by omega)]
        rw [if_pos h5, if_pos (by simp; omega), ih (i + 1) k _ 1 (1 - b) 1 (by omega) (by omega) (by omega) (by simp; omega) (.inr ⟨by simp, rd_last _ _, rfl, by omega, by omega⟩), stuffed_five b bit many b (1 - b) 1 _ (by rw [ep, h5]) ep2, e1b]
        simp
      · rw [if_neg h5, ih (i + 1) k _ (many + 1) b (many + 1) (by omega) (by omega) (by omega) (by simp; omega) (.inr ⟨by simp, rd_last _ _, rfl, by omega, by omega⟩), stuffed_else b bit many b (many + 1) _ ep h5]
        simp
    · have ep : put1 bit many b = (b, 1) := by
        unfold put1
        by_cases hm : many > 0
        · rw [if_pos hm, if_neg (fun e => hsame ⟨hm, e⟩)]
        · rw [if_neg hm]
      have et : (decide (many > 0) && decide (bit = b)) = false := by
        cases h : (decide (many > 0) && decide (bit = b)) with
        | false => rfl
        | true =>
          simp only [Bool.and_eq_true, decide_eq_true_eq] at h
          exact absurd h hsame
      rw [et, neonwrightref08_bits.j1, if_neg (by simp), if_pos (by omega), if_pos (by omega), if_pos (by omega), hbb, e3, ih (i + 1) k _ 1 b 1 (by omega) (by omega) (by omega) (by simp; omega) (.inr ⟨by simp, rd_last _ _, rfl, by omega, by omega⟩), stuffed_else b bit many b 1 _ ep (by decide)]
      simp

/-- Is a frame valid, by its parts. -/
theorem vB_mk (a : Int) (l : List Int) : vB ⟨a, l⟩ = (decide (0 ≤ a) && decide (a ≤ 2047) && decide (l.length ≤ 8) && bytesB l) := rfl
theorem vB_parts (a : Int) (l : List Int) (h : vB ⟨a, l⟩ = true) : 0 ≤ a ∧ a ≤ 2047 ∧ l.length ≤ 8 ∧ bytesB l = true := by
  rw [vB_mk] at h
  simp only [Bool.and_eq_true, decide_eq_true_eq] at h
  exact ⟨h.1.1.1, h.1.1.2, h.1.2, h.2⟩
theorem ref_bits_eq (no : Nat) (l : List Int) (hno : no < 32768) (hl : l.length ≤ 8) (hb : bytesB l = true) (k : Nat) (hk : 300 ≤ k) : neonwrightref08_bits.f k (no : Int) l = some (bitsS no l) := by
  unfold neonwrightref08_bits.f
  rw [ref_Plain_eq no l hno hl hb k (by omega), Option.bind_some]
  have hp := plainS_length no l
  have := ref_bits_l0 (plainS no l) (by omega) (plainS_bit no l) (plainS no l).length 0 k [] 0 0 0 (by omega) (by omega) (by omega) (by simp) (.inl ⟨rfl, rfl⟩)
  simpa [bitsS] using this
theorem bus_bitsOf_eq (no : Nat) (l : List Int) (hno : no < 32768) (hl : l.length ≤ 8) (hb : bytesB l = true) : bus_bitsOf.f (no : Int) l = some (bitsS no l) := by
  unfold bus_bitsOf.f
  have hp := plainS_length no l
  rw [bus_plain_eq no l hno hl hb 300 (by omega), Option.bind_some, if_pos (by omega)]
  rfl
theorem Frame_l0 (a : Int) (l : List Int) (hl : l.length ≤ 1000) : ∀ (k i : Nat), i ≤ l.length → l.length - i < k → neonwrightref08_Frame.l0 k (i : Int) a l = some (bytesB (l.drop i))
  | 0, _, _, h => by omega
  | k + 1, i, hi, hk => by
    unfold neonwrightref08_Frame.l0
    by_cases h : i < l.length
    · have e3 : wrap64 ((i : Int) + 1) = ((i + 1 : Nat) : Int) := by rw [w64 _ (by omega) (by omega)]; omega
      have eb : bytesB (l.drop i) = (!(decide (rd l (i : Int) < 0) || decide (255 < rd l (i : Int))) && bytesB (l.drop (i + 1))) := by
        rw [drop_rd l i h]
        simp only [bytesB, List.any_cons, Bool.not_or]
      rw [if_pos (by omega), if_pos (by omega), e3, eb]
      by_cases h0 : rd l (i : Int) < 0
      · rw [if_pos h0]; simp [h0]
      · rw [if_neg h0]
        by_cases h1 : rd l (i : Int) > 255
        · rw [if_pos h1]; simp [h1]
        · rw [if_neg h1, Frame_l0 a l hl k (i + 1) (by omega) (by omega)]
          have e1 : decide (rd l (i : Int) < 0) = false := decide_eq_false h0
          have e2 : decide (255 < rd l (i : Int)) = false := decide_eq_false h1
          rw [e1, e2]; rfl
    · rw [if_neg (by omega), List.drop_eq_nil_of_le (by omega)]
      rfl
theorem Frame_eq (a : Int) (l : List Int) (hl : l.length ≤ 1000) (k : Nat) (hk : l.length + 2 < k) : neonwrightref08_Frame.f k a l = some (vB ⟨a, l⟩) := by
  obtain ⟨k, rfl⟩ : ∃ j, k = j + 1 := ⟨k - 1, by omega⟩
  have h0 := Frame_l0 a l hl k 0 (by omega) (by omega)
  rw [vB_mk]
  unfold neonwrightref08_Frame.f
  by_cases h1 : a < 0
  · rw [if_pos h1, neonwrightref08_Frame.j0, if_pos rfl]
    have e : decide (0 ≤ a) = false := decide_eq_false (by omega)
    rw [e]; rfl
  · rw [if_neg h1]
    have e : decide (0 ≤ a) = true := decide_eq_true (by omega)
    by_cases h2 : a > 2047
    · rw [if_pos h2, neonwrightref08_Frame.j0, if_pos rfl]
      have e2 : decide (a ≤ 2047) = false := decide_eq_false (by omega)
      rw [e, e2]; rfl
    · rw [if_neg h2]
      have e2 : decide (a ≤ 2047) = true := decide_eq_true (by omega)
      by_cases h3 : (l.length : Int) > 8
      · rw [decide_eq_true h3, neonwrightref08_Frame.j0, if_pos rfl]
        have e3 : decide (l.length ≤ 8) = false := decide_eq_false (by omega)
        rw [e, e2, e3]; rfl
      · rw [decide_eq_false h3, neonwrightref08_Frame.j0, if_neg (by simp)]
        have e3 : decide (l.length ≤ 8) = true := decide_eq_true (by omega)
        rw [e, e2, e3]
        simpa using h0
/-- The answer of Bits. -/
def bitsAns (a : Int) (l : List Int) : List Int × Int := if vB ⟨a, l⟩ = true then (bitsS a.toNat l, 0) else ([], 2)
theorem bitsOf_valid (a : Int) (l : List Int) (h : vB ⟨a, l⟩ = true) : bus_bitsOf.f a l = some (bitsS a.toNat l) := by
  obtain ⟨h1, h2, h3, h4⟩ := vB_parts a l h
  have e : ((a.toNat : Nat) : Int) = a := by omega
  have := bus_bitsOf_eq a.toNat l (by omega) h3 h4
  rwa [e] at this
theorem bus_Bits_eq (a : Int) (l : List Int) : bus_Bits.f a l = some (bitsAns a l) := by
  unfold bus_Bits.f bitsAns
  have e : bus_valid.f a l = some (vB ⟨a, l⟩) := rfl
  rw [e, Option.bind_some]
  by_cases h : vB ⟨a, l⟩ = true
  · rw [if_pos h, if_pos h, bitsOf_valid a l h]; rfl
  · rw [if_neg h, if_neg h]
end Go.Proofs.YtbanemecfobonaaDoor.B
