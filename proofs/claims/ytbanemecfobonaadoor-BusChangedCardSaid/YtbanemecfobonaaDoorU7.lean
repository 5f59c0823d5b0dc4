/- Plain facts on the check: it is 0 behind its own bits; one bit changed is seen. -/
import Derived.Test.YtbanemecfobonaaDoorU2
namespace Go.Proofs.YtbanemecfobonaaDoor.B
open Go.RowKit Go.Proofs.YtbanemecfobonaaDoorW.PrintWords Go.Proofs.YtbanemecfobonaaDoorW.PrintLast Go.Proofs.YtbanemecfobonaaDoorW.PrintMore
set_option linter.unusedVariables false
set_option linter.unusedSimpArgs false

def gC : BitVec 15 := 17817#15
/-- A bit goes into a check of 15 bits. -/
def stB (c : BitVec 15) (b : Bool) : BitVec 15 := (c <<< 1) ^^^ (if (c.msb != b) = true then gC else 0#15)
def foldB (c : BitVec 15) (l : List Bool) : BitVec 15 := l.foldl stB c
theorem xor4 (a b g : BitVec 15) : (a ^^^ b) ^^^ g = (a ^^^ g) ^^^ b := by
  apply BitVec.eq_of_getLsbD_eq
  intro i _
  simp only [BitVec.getLsbD_xor]
  cases a.getLsbD i <;> cases b.getLsbD i <;> cases g.getLsbD i <;> rfl
theorem xor5 (a b g : BitVec 15) : a ^^^ b = (a ^^^ g) ^^^ (b ^^^ g) := by
  apply BitVec.eq_of_getLsbD_eq
  intro i _
  simp only [BitVec.getLsbD_xor]
  cases a.getLsbD i <;> cases b.getLsbD i <;> cases g.getLsbD i <;> rfl
theorem xor6 (a b g : BitVec 15) : (a ^^^ b) ^^^ g = a ^^^ (b ^^^ g) := by
  apply BitVec.eq_of_getLsbD_eq
  intro i _
  simp only [BitVec.getLsbD_xor]
  cases a.getLsbD i <;> cases b.getLsbD i <;> cases g.getLsbD i <;> rfl
theorem xor0 (a : BitVec 15) : a ^^^ 0#15 = a := by
  apply BitVec.eq_of_getLsbD_eq
  intro i _
  simp
theorem stB_lin (c d : BitVec 15) (b : Bool) : stB (c ^^^ d) b = stB c b ^^^ stB d false := by
  have hs : (c ^^^ d) <<< 1 = (c <<< 1) ^^^ (d <<< 1) := by
    apply BitVec.eq_of_getLsbD_eq
    intro i hi
    simp only [BitVec.getLsbD_xor, BitVec.getLsbD_shiftLeft]
    cases decide (i < 15) <;> cases decide (i < 1) <;> simp
  have hm : (c ^^^ d).msb = (c.msb ^^ d.msb) := BitVec.msb_xor
  unfold stB
  rw [hs, hm]
  generalize c <<< 1 = x
  generalize d <<< 1 = y
  cases c.msb <;> cases d.msb <;> cases b <;> simp only [Bool.bne_true, Bool.bne_false, Bool.xor_true, Bool.xor_false, Bool.not_true, Bool.not_false, Bool.false_eq_true, if_true, if_false, xor0] <;> first | rfl | exact xor4 _ _ _ | exact xor5 _ _ _ | exact xor6 _ _ _
theorem stB_flip (c : BitVec 15) (b : Bool) : stB c (!b) = stB c b ^^^ gC := by
  unfold stB
  generalize c <<< 1 = x
  have h : x = (x ^^^ gC) ^^^ gC := by
    apply BitVec.eq_of_getLsbD_eq
    intro i _
    simp only [BitVec.getLsbD_xor]
    cases x.getLsbD i <;> cases gC.getLsbD i <;> rfl
  cases c.msb <;> cases b <;> simp only [Bool.bne_true, Bool.bne_false, Bool.not_true, Bool.not_false, Bool.false_eq_true, if_true, if_false, xor0] <;> first | rfl | exact h
/-- Zeros go in. -/
def zeros (c : BitVec 15) : Nat → BitVec 15
  | 0 => c
  | n + 1 => zeros (stB c false) n
theorem foldB_lin (l : List Bool) : ∀ (c d : BitVec 15), foldB (c ^^^ d) l = foldB c l ^^^ zeros d l.length := by
  induction l with
  | nil => intro c d; rfl
  | cons b l ih =>
    intro c d
    show foldB (stB (c ^^^ d) b) l = foldB (stB c b) l ^^^ zeros (stB d false) l.length
    rw [stB_lin, ih]
theorem shl1_nat (c : BitVec 15) : (c <<< 1).toNat = 2 * c.toNat % 32768 := by
  rw [BitVec.toNat_shiftLeft, Nat.shiftLeft_eq]
  have : c.toNat * 2 ^ 1 = 2 * c.toNat := by omega
  rw [this]
theorem msb_nat (c : BitVec 15) : c.msb = decide (16384 ≤ c.toNat) := by
  rw [BitVec.msb_eq_decide]
theorem stB_zero (c : BitVec 15) (h : stB c false = 0#15) : c = 0#15 := by
  have hc := c.isLt
  have h1 := shl1_nat c
  unfold stB at h
  rw [msb_nat] at h
  by_cases hm : 16384 ≤ c.toNat
  · rw [decide_eq_true hm, if_pos (by rfl)] at h
    have h2 := BitVec.xor_eq_zero_iff.mp h
    rw [h2] at h1
    have h3 : gC.toNat = 17817 := by decide
    omega
  · rw [decide_eq_false hm, if_neg (by simp), xor0] at h
    rw [h] at h1
    have h3 : (0#15).toNat = 0 := rfl
    apply BitVec.eq_of_toNat_eq
    rw [h3]
    omega
theorem zeros_ne : ∀ (n : Nat) (c : BitVec 15), c ≠ 0#15 → zeros c n ≠ 0#15
  | 0, c, h => h
  | n + 1, c, h => zeros_ne n _ (fun e => h (stB_zero c e))
/-- One bit changed is seen. -/
theorem foldB_one (c : BitVec 15) (S T : List Bool) (x : Bool) : foldB c (S ++ (!x) :: T) ≠ foldB c (S ++ x :: T) := by
  have e : ∀ y, foldB c (S ++ y :: T) = foldB (stB (foldB c S) y) T := fun y => by simp [foldB, List.foldl_append]
  rw [e, e, stB_flip, foldB_lin]
  intro h
  refine zeros_ne T.length gC (by decide) ?_
  generalize foldB (stB (foldB c S) x) T = u at h
  generalize zeros gC T.length = v at h
  apply BitVec.eq_of_getLsbD_eq
  intro i _
  have := congrArg (fun z : BitVec 15 => z.getLsbD i) h
  simp only [BitVec.getLsbD_xor] at this
  cases hu : u.getLsbD i <;> cases hv : v.getLsbD i <;> simp [hu, hv] at this ⊢

/-- A bit as a truth. -/
def tb (x : Int) : Bool := x == 1
theorem stepC_B (c : BitVec 15) (x : Int) (hx : x = 0 ∨ x = 1) : stepC c.toNat x = (stB c (tb x)).toNat := by
  have hc := c.isLt
  have h1 := shl1_nat c
  unfold stepC stB
  rw [msb_nat, ← h1]
  have hg : gC.toNat = 17817 := by decide
  by_cases hm : 16384 ≤ c.toNat
  · have e : c.toNat / 16384 = 1 := by omega
    rw [decide_eq_true hm, e]
    rcases hx with rfl | rfl
    · rw [if_neg (by decide), if_pos (by rfl), BitVec.toNat_xor, hg]
    · rw [if_pos (by decide), if_neg (by simp [tb]), xor0]
  · have e : c.toNat / 16384 = 0 := by omega
    rw [decide_eq_false hm, e]
    rcases hx with rfl | rfl
    · rw [if_pos (by decide), if_neg (by simp [tb]), xor0]
    · rw [if_neg (by decide), if_pos (by rfl), BitVec.toNat_xor, hg]
theorem fold_B (l : List Int) (hl : ∀ x ∈ l, x = 0 ∨ x = 1) : ∀ c : BitVec 15, l.foldl stepC c.toNat = (foldB c (l.map tb)).toNat := by
  induction l with
  | nil => intro c; rfl
  | cons x l ih =>
    intro c
    have h1 := stepC_B c x (hl x List.mem_cons_self)
    show l.foldl stepC (stepC c.toNat x) = (foldB (stB c (tb x)) (l.map tb)).toNat
    rw [h1]
    exact ih (fun y hy => hl y (List.mem_cons_of_mem _ hy)) _
theorem chk_B (l : List Int) (hl : ∀ x ∈ l, x = 0 ∨ x = 1) : chk l = (foldB 0#15 (l.map tb)).toNat := fold_B l hl 0#15
/-- One bit changed changes the check. -/
theorem chk_one (S T : List Int) (x y : Int) (hS : ∀ z ∈ S, z = 0 ∨ z = 1) (hT : ∀ z ∈ T, z = 0 ∨ z = 1) (hx : x = 0 ∨ x = 1) (hy : y = 0 ∨ y = 1) (hne : x ≠ y) : chk (S ++ x :: T) ≠ chk (S ++ y :: T) := by
  have hall : ∀ u, (u = 0 ∨ u = 1) → ∀ z ∈ S ++ u :: T, z = 0 ∨ z = 1 := fun u hu z hz => by
    rw [List.mem_append, List.mem_cons] at hz
    rcases hz with hz | rfl | hz
    · exact hS z hz
    · exact hu
    · exact hT z hz
  rw [chk_B _ (hall x hx), chk_B _ (hall y hy)]
  intro h
  have h2 := BitVec.eq_of_toNat_eq h
  have e : tb x = !(tb y) := by
    rcases hx with rfl | rfl <;> rcases hy with rfl | rfl <;> first | exact absurd rfl hne | rfl
  rw [List.map_append, List.map_append, List.map_cons, List.map_cons, e] at h2
  exact foldB_one _ _ _ _ h2

theorem wr_step (c m : Nat) (hm : m ≤ 14) (hc : c < 32768) : stepC (c * 2 ^ (14 - m) % 32768) ((c / 2 ^ m % 2 : Nat) : Int) = c * 2 ^ (15 - m) % 32768 := by
  have e1 : c * 2 ^ (14 - m) % 32768 / 16384 = c / 2 ^ m % 2 := by
    have h1 : c * 2 ^ (14 - m) % (16384 * 2) / 16384 = c * 2 ^ (14 - m) / 16384 % 2 := Nat.mod_mul_right_div_self _ _ _
    have h2 : (16384 : Nat) = 2 ^ m * 2 ^ (14 - m) := by
      rw [← Nat.pow_add]
      have : m + (14 - m) = 14 := by omega
      rw [this]
    have h3 : c * 2 ^ (14 - m) / 16384 = c / 2 ^ m := by
      rw [h2, Nat.mul_div_mul_right _ _ (Nat.two_pow_pos _)]
    rw [h3] at h1
    exact h1
  unfold stepC
  rw [e1, if_pos rfl]
  have e2 : 15 - m = 14 - m + 1 := by omega
  rw [e2, Nat.pow_succ]
  generalize 2 ^ (14 - m) = q
  have : c * (q * 2) = 2 * (c * q) := by rw [← Nat.mul_assoc, Nat.mul_comm]
  rw [this]
  omega
theorem wr_fold (c : Nat) (hc : c < 32768) : ∀ m, m ≤ 15 → (wrN c m).foldl stepC (c * 2 ^ (15 - m) % 32768) = 0
  | 0, _ => by
    show c * 2 ^ 15 % 32768 = 0
    omega
  | m + 1, h => by
    show (wrN c m).foldl stepC (stepC (c * 2 ^ (15 - (m + 1)) % 32768) ((c / 2 ^ m % 2 : Nat) : Int)) = 0
    have e : 15 - (m + 1) = 14 - m := by omega
    rw [e, wr_step c m (by omega) hc]
    exact wr_fold c hc m (by omega)
/-- Behind its own bits a check is 0. -/
theorem chk_own (h : List Int) : chk (h ++ wrN (chk h) 15) = 0 := by
  have hc := chk_lt h
  have := wr_fold (chk h) hc 15 (Nat.le_refl _)
  have e : chk h * 2 ^ (15 - 15) % 32768 = chk h := by simp; omega
  rw [e] at this
  show (h ++ wrN (chk h) 15).foldl stepC 0 = 0
  rw [List.foldl_append]
  exact this
theorem chk_plain (no : Nat) (l : List Int) : chk (plainS no l) = 0 := chk_own _

theorem wrN_inj : ∀ (m a b : Nat), wrN a m = wrN b m → a % 2 ^ m = b % 2 ^ m
  | 0, a, b, _ => by simp [Nat.mod_one]
  | m + 1, a, b, h => by
    rw [wrN, wrN, List.cons.injEq] at h
    have h1 := wrN_inj m a b h.2
    have h2 : a / 2 ^ m % 2 = b / 2 ^ m % 2 := by have := h.1; omega
    rw [Nat.pow_succ, Nat.mod_mul, Nat.mod_mul, h1, h2]
theorem dataS_inj : ∀ (la lb : List Int), la.length = lb.length → bytesB la = true → bytesB lb = true → dataS la = dataS lb → la = lb
  | [], [], _, _, _, _ => rfl
  | [], b :: lb, h, _, _, _ => by simp at h
  | a :: la, [], h, _, _, _ => by simp at h
  | a :: la, b :: lb, h, ha, hb, he => by
    rw [dataS_cons, dataS_cons] at he
    have h1 := List.append_inj he (by rw [wrN_length, wrN_length])
    have hin := wrN_inj 8 a.toNat b.toNat h1.1
    have pa : 0 ≤ a ∧ a ≤ 255 ∧ bytesB la = true := by
      simp only [bytesB, List.any_cons, Bool.not_or, Bool.and_eq_true, Bool.not_eq_eq_eq_not, Bool.not_true, decide_eq_false_iff_not] at ha ⊢
      exact ⟨by omega, by omega, ha.2⟩
    have pb : 0 ≤ b ∧ b ≤ 255 ∧ bytesB lb = true := by
      simp only [bytesB, List.any_cons, Bool.not_or, Bool.and_eq_true, Bool.not_eq_eq_eq_not, Bool.not_true, decide_eq_false_iff_not] at hb ⊢
      exact ⟨by omega, by omega, hb.2⟩
    have e : a = b := by
      rw [Nat.mod_eq_of_lt (by omega), Nat.mod_eq_of_lt (by omega)] at hin
      omega
    rw [e, dataS_inj la lb (by simpa using h) pa.2.2 pb.2.2 h1.2]
theorem plainS_inj (a b : Nat) (la lb : List Int) (ha : a < 2048) (hb : b < 2048) (hl : la.length = lb.length) (h1 : bytesB la = true) (h2 : bytesB lb = true) (he : plainS a la = plainS b lb) : a = b ∧ la = lb := by
  have e1 : headS a la = headS b lb := (List.append_inj he (by rw [headS_length, headS_length, hl])).1
  rw [headS, headS, List.cons.injEq] at e1
  have e2 := List.append_inj e1.2 (by rw [wrN_length, wrN_length])
  have e3 := wrN_inj 11 a b e2.1
  rw [Nat.mod_eq_of_lt (by omega), Nat.mod_eq_of_lt (by omega)] at e3
  have e4 := e2.2
  simp only [List.cons.injEq, true_and] at e4
  have e5 := List.append_inj e4 (by rw [wrN_length, wrN_length])
  exact ⟨e3, dataS_inj la lb hl h1 h2 e5.2⟩

/-- In how many places lists differ. -/
def diffs : List Int → List Int → Nat
  | a :: l, b :: m => (if a = b then 0 else 1) + diffs l m
  | _, _ => 0
theorem diffs_zero : ∀ (p q : List Int), p.length = q.length → diffs p q = 0 → p = q
  | [], [], _, _ => rfl
  | [], _ :: _, h, _ => by simp at h
  | _ :: _, [], h, _ => by simp at h
  | a :: p, b :: q, h, hd => by
    rw [diffs] at hd
    by_cases e : a = b
    · rw [if_pos e] at hd
      rw [e, diffs_zero p q (by simpa using h) (by omega)]
    · rw [if_neg e] at hd
      omega
theorem diffs_one : ∀ (p q : List Int), p.length = q.length → diffs p q = 1 → ∃ S x y T, p = S ++ x :: T ∧ q = S ++ y :: T ∧ x ≠ y
  | [], [], _, hd => by simp [diffs] at hd
  | [], _ :: _, h, _ => by simp at h
  | _ :: _, [], h, _ => by simp at h
  | a :: p, b :: q, h, hd => by
    rw [diffs] at hd
    by_cases e : a = b
    · rw [if_pos e] at hd
      obtain ⟨S, x, y, T, h1, h2, h3⟩ := diffs_one p q (by simpa using h) (by omega)
      exact ⟨a :: S, x, y, T, by rw [h1]; rfl, by rw [h2, e]; rfl, h3⟩
    · rw [if_neg e] at hd
      have := diffs_zero p q (by simpa using h) (by omega)
      exact ⟨[], a, b, p, rfl, by rw [this]; rfl, e⟩
/-- Different frames with as many bytes differ in two plain bits at least. -/
theorem plain_two (a b : Nat) (la lb : List Int) (ha : a < 2048) (hb : b < 2048) (hl : la.length = lb.length) (h1 : bytesB la = true) (h2 : bytesB lb = true) (hne : ¬ (a = b ∧ la = lb)) : 2 ≤ diffs (plainS a la) (plainS b lb) := by
  have hlen : (plainS a la).length = (plainS b lb).length := by rw [plainS_length, plainS_length, hl]
  rcases Nat.lt_or_ge (diffs (plainS a la) (plainS b lb)) 2 with h | h
  · exfalso
    rcases Nat.eq_zero_or_pos (diffs (plainS a la) (plainS b lb)) with h0 | h0
    · exact hne (plainS_inj a b la lb ha hb hl h1 h2 (diffs_zero _ _ hlen h0))
    · obtain ⟨S, x, y, T, e1, e2, e3⟩ := diffs_one _ _ hlen (by omega)
      have b1 := plainS_bit a la
      have b2 := plainS_bit b lb
      rw [e1] at b1
      rw [e2] at b2
      have c1 := chk_plain a la
      have c2 := chk_plain b lb
      rw [e1] at c1
      rw [e2] at c2
      refine chk_one S T x y (fun z hz => b1 z (by simp [hz])) (fun z hz => b1 z (by simp [hz])) (b1 x (by simp)) (b2 y (by simp)) e3 ?_
      rw [c1, c2]
  · exact h
end Go.Proofs.YtbanemecfobonaaDoor.B
