/- Written by a program (lite.py, squash.py) from my texts. -/
import Derived.Test.YtbanemecfobonaaDoorGUm
import Derived.Test.YtbanemecfobonaaDoorBQm
import Derived.Test.YtbanemecfobonaaDoorBQ3m
section
namespace Go.Proofs.YtbanemecfobonaaDoor.B
open Go.RowKit Go.Proofs.YtbanemecfobonaaDoorW.PrintWords Go.Proofs.YtbanemecfobonaaDoorW.PrintLast Go.Proofs.YtbanemecfobonaaDoorW.PrintMore
set_option linter.unusedVariables false
set_option linter.unusedSimpArgs false
def VD (l : List Int) : Nat → Int
  | 0 => 0
  | n + 1 => VD l n + rd l (n : Int) * 10000 ^ n
abbrev vD (l : List Int) : Int := VD l l.length
def okD (l : List Int) : Prop := ∀ i : Nat, i < l.length → 0 ≤ rd l (i : Int) ∧ rd l (i : Int) < 10000
def nD (l : List Int) : Prop := okD l ∧ (0 < l.length → 0 < rd l ((l.length - 1 : Nat) : Int))
theorem d10_powB (n : Nat) : (1 : Int) ≤ 10000 ^ n := by
  induction n with
  | zero => simp
  | succ n ih => rw [Int.pow_succ]; omega
theorem d10_powB_le (n m : Nat) (h : n ≤ m) : (10000 : Int) ^ n ≤ 10000 ^ m := by
  induction m with
  | zero => obtain rfl : n = 0 := by omega
            exact Int.le_refl _
  | succ m ih =>
    by_cases e : n = m + 1
    · subst e; exact Int.le_refl _
    · have := ih z3
      have := d10_powB m
      rw [Int.pow_succ]; omega
theorem d10_V_bound (l : List Int) (h : okD l) : ∀ n, n ≤ l.length → 0 ≤ VD l n ∧ VD l n + 1 ≤ 10000 ^ n
  | 0, _ => by simp [VD]
  | n + 1, hn => by
    obtain ⟨h1, h2⟩ := d10_V_bound l h n z3
    obtain ⟨h3, h4⟩ := h n z3
    have hp := d10_powB n
    have h5 : 0 ≤ rd l (n : Int) * 10000 ^ n := Int.mul_nonneg h3 z3
    have h6 : rd l (n : Int) * 10000 ^ n ≤ 9999 * 10000 ^ n := Int.mul_le_mul_of_nonneg_right z3 z3
    rw [Int.pow_succ]
    simp only [VD]
    omega
theorem d10_V_low (l : List Int) (h : nD l) (hp : 0 < l.length) : 10000 ^ (l.length - 1) ≤ vD l := by
  obtain ⟨m, hm⟩ : ∃ m, l.length = m + 1 := ⟨l.length - 1, by omega⟩
  have h1 := (d10_V_bound l h.1 m z3).1
  have h2 := h.2 hp
  show _ ≤ VD l l.length
  rw [hm] at h2 ⊢
  simp only [VD, Nat.add_sub_cancel] at h2 ⊢
  have h3 : 1 * 10000 ^ m ≤ rd l (m : Int) * 10000 ^ m := Int.mul_le_mul_of_nonneg_right z3 (by have := d10_powB m; omega)
  omega
theorem d10_V_congr (a b : List Int) : ∀ n : Nat, (∀ i : Nat, i < n → rd a (i : Int) = rd b (i : Int)) → VD a n = VD b n
  | 0, _ => rfl
  | n + 1, h => by simp only [VD]; rw [d10_V_congr a b n (fun i hi => h i z3), h n z3]
theorem d10_V_set (l : List Int) (i : Nat) (v : Int) (hi : i < l.length) : ∀ n, n ≤ l.length → VD (l.set i v) n = VD l n + if i < n then (v - rd l (i : Int)) * 10000 ^ i else 0
  | 0, _ => by simp [VD]
  | n + 1, hn => by
    simp only [VD]
    rw [d10_V_set l i v hi n z3, rd_put l i v n z3]
    by_cases h1 : n = i
    · subst h1
      rw [if_pos rfl, if_neg z3, if_pos z3]; grind
    · rw [if_neg h1]
      by_cases h2 : i < n
      · rw [if_pos h2, if_pos z3]; omega
      · rw [if_neg h2, if_neg z3]; omega
theorem d10_V_zero (l : List Int) (n : Nat) (h : ∀ i, n ≤ i → i < l.length → rd l (i : Int) = 0) : ∀ m, n ≤ m → m ≤ l.length → VD l m = VD l n := by
  intro m hm hl
  induction m with
  | zero => obtain rfl : n = 0 := by omega
            rfl
  | succ m ih =>
    by_cases e : n = m + 1
    · subst e; rfl
    · simp only [VD]
      rw [ih z3 z3, h m z3 z3]; omega
theorem d10_okW_take (l : List Int) (m : Nat) (h : okD l) : okD (l.take m) := fun i hi => by
  rw [List.length_take] at hi
  rw [rd_take _ _ _ z3]
  exact h i z3
theorem d10_V_take (l : List Int) (m n : Nat) (h : n ≤ m) : VD (l.take m) n = VD l n := d10_V_congr _ _ _ (fun i hi => rd_take l m i z3)
def okE (l : List Int) (n : Nat) : Prop := ∀ i : Nat, i < n → 0 ≤ rd l (i : Int) ∧ rd l (i : Int) < 10000
theorem d10_okT_set (l : List Int) (n i : Nat) (v : Int) (h : okE l n) (hl : n ≤ l.length) (h0 : 0 ≤ v) (h1 : v < 10000) : okE (l.set i v) n := fun j hj => by
  rw [rd_put l i v j z3]
  split
  · exact ⟨h0, h1⟩
  · exact h j hj
theorem d10_okT_put (l : List Int) (n : Nat) (v : Int) (h : okE l n) (hl : n < l.length) (h0 : 0 ≤ v) (h1 : v < 10000) : okE (l.set n v) (n + 1) := fun j hj => by
  rw [rd_put l n v j z3]
  split
  · exact ⟨h0, h1⟩
  · exact h j z3
theorem d10_V_put (l : List Int) (n : Nat) (v : Int) (hl : n < l.length) : VD (l.set n v) (n + 1) = VD l n + v * 10000 ^ n := by
  simp only [VD]
  rw [d10_V_set l n v hl n z3, if_neg z3, rd_put l n v n z3, if_pos rfl]; omega
theorem d10_V_over (l : List Int) (n : Nat) (h : l.length ≤ n) : VD l n = vD l := by
  induction n with
  | zero => obtain e : l.length = 0 := by omega
            show _ = VD l l.length
            rw [e]
  | succ n ih =>
    by_cases e : l.length = n + 1
    · show _ = VD l l.length
      rw [e]
    · simp only [VD]
      rw [ih z3, rd_out l n z3]; omega
theorem d10_V_rep (m : Nat) : ∀ n, VD (List.replicate m 0) n = 0
  | 0 => rfl
  | n + 1 => by simp only [VD]; rw [d10_V_rep m n, rd_rep]; omega
theorem d10_rd_any (b : List Int) (hb : okD b) (i : Nat) : 0 ≤ rd b (i : Int) ∧ rd b (i : Int) < 10000 := by
  by_cases h : i < b.length
  · exact hb i h
  · rw [rd_out b i z3]; omega
theorem d10_vW_nonneg (l : List Int) (h : okD l) : 0 ≤ vD l := (d10_V_bound l h _ (Nat.le_refl _)).1
theorem d10_len_lt (a b : List Int) (ha : okD a) (hb : nD b) (h : a.length < b.length) : vD a < vD b := by
  have h1 := (d10_V_bound a ha _ (Nat.le_refl _)).2
  have h2 := d10_V_low b hb z3
  have h3 := d10_powB_le a.length (b.length - 1) z3
  show VD a a.length < VD b b.length
  have h4 : VD b b.length = vD b := rfl
  omega
theorem d10_V_any (l : List Int) (h : okD l) : ∀ n, 0 ≤ VD l n ∧ VD l n + 1 ≤ 10000 ^ n
  | 0 => by simp [VD]
  | n + 1 => by
    obtain ⟨h1, h2⟩ := d10_V_any l h n
    obtain ⟨h3, h4⟩ := d10_rd_any l h n
    have hp := d10_powB n
    have h5 : 0 ≤ rd l (n : Int) * 10000 ^ n := Int.mul_nonneg h3 z3
    have h6 : rd l (n : Int) * 10000 ^ n ≤ 9999 * 10000 ^ n := Int.mul_le_mul_of_nonneg_right z3 z3
    rw [Int.pow_succ]
    simp only [VD]
    omega
theorem d10_len_of (r : List Int) (h : nD r) (n : Nat) (hv : vD r < 10000 ^ n) : r.length ≤ n := by
  rcases Nat.lt_or_ge n r.length with h1 | h1
  · exfalso
    have h2 := d10_V_low r h z3
    have h3 := d10_powB_le n (r.length - 1) z3
    omega
  · exact h1
theorem d10_len_le (a b : List Int) (ha : nD a) (hb : okD b) (h : vD a ≤ vD b) : a.length ≤ b.length := by
  have := (d10_V_any b hb b.length).2
  exact d10_len_of a ha _ (by have h2 : vD b = VD b b.length := rfl; omega)
theorem d10_nil_iff (l : List Int) (h : nD l) : l.length = 0 ↔ vD l = 0 := by
  constructor
  · intro e; show VD l l.length = 0; rw [e]; rfl
  · intro e
    rcases Nat.eq_zero_or_pos l.length with h1 | h1
    · exact h1
    · have := d10_V_low l h h1
      have := d10_powB (l.length - 1)
      omega
theorem d10_times_len (a b r : List Int) (ha : nD a) (hb : nD b) (hr : nD r) (h : vD r = vD a * vD b) : r.length ≤ a.length + b.length := by
  apply d10_len_of r hr
  obtain ⟨a0, a1⟩ := d10_V_any a ha.1 a.length
  obtain ⟨b0, b1⟩ := d10_V_any b hb.1 b.length
  change 0 ≤ vD a at a0
  change vD a + 1 ≤ _ at a1
  change 0 ≤ vD b at b0
  change vD b + 1 ≤ _ at b1
  rw [h, Int.pow_add]
  have h1 : vD a * vD b ≤ (10000 ^ a.length - 1) * vD b := Int.mul_le_mul_of_nonneg_right z3 b0
  have h2 : (10000 ^ a.length - 1) * vD b ≤ (10000 ^ a.length - 1) * 10000 ^ b.length := Int.mul_le_mul_of_nonneg_left z3 (by have := d10_powB a.length; omega)
  have e : ((10000 : Int) ^ a.length - 1) * 10000 ^ b.length = 10000 ^ a.length * 10000 ^ b.length - 10000 ^ b.length := by grind
  have := d10_powB b.length
  omega
end Go.Proofs.YtbanemecfobonaaDoor.B
end
section
namespace Go.Proofs.YtbanemecfobonaaDoor.B
open Go.RowKit Go.Proofs.YtbanemecfobonaaDoorW.PrintWords Go.Proofs.YtbanemecfobonaaDoorW.PrintLast Go.Proofs.YtbanemecfobonaaDoorW.PrintMore
set_option linter.unusedVariables false
set_option linter.unusedSimpArgs false
theorem rd_app1 (l : List Int) (x : Int) (i : Nat) : rd (l ++ [x]) (i : Int) = if i < l.length then rd l (i : Int) else if i = l.length then x else 0 := by
  show (l ++ [x]).getD i 0 = if i < l.length then l.getD i 0 else _
  rw [List.getD_eq_getElem?_getD, List.getD_eq_getElem?_getD]
  by_cases h : i < l.length
  · rw [if_pos h, List.getElem?_append_left h]
  · rw [if_neg h, List.getElem?_append_right z3]
    by_cases h2 : i = l.length
    · subst h2; simp
    · rw [if_neg h2, List.getElem?_eq_none (by simp; omega)]; rfl
theorem vD_app (l : List Int) (x : Int) : vD (l ++ [x]) = vD l + x * 10000 ^ l.length := by
  show VD (l ++ [x]) (l ++ [x]).length = _
  rw [List.length_append, List.length_singleton]
  simp only [VD]
  rw [rd_app1, if_neg z3, if_pos rfl]
  congr 1
  exact d10_V_congr _ _ _ fun i hi => by rw [rd_app1, if_pos hi]
theorem okD_app (l : List Int) (x : Int) (h : okD l) (h0 : 0 ≤ x) (h1 : x < 10000) : okD (l ++ [x]) := fun i hi => by
  rw [List.length_append, List.length_singleton] at hi
  rw [rd_app1]
  split
  · exact h i (by assumption)
  · rw [if_pos z3]; exact ⟨h0, h1⟩
theorem vD_cons (x : Int) (l : List Int) : vD ([x] ++ l) = x + vD l * 10000 := by
  show VD (x :: l) (l.length + 1) = x + VD l l.length * 10000
  have key : ∀ n, VD (x :: l) (n + 1) = x + VD l n * 10000 := by
    intro n
    induction n with
    | zero => show 0 + x * 1 = x + 0 * 10000; omega
    | succ n ih =>
      have e : VD (x :: l) (n + 1 + 1) = VD (x :: l) (n + 1) + rd (x :: l) ((n + 1 : Nat) : Int) * 10000 ^ (n + 1) := rfl
      have e2 : rd (x :: l) ((n + 1 : Nat) : Int) = rd l (n : Int) := rfl
      rw [e, ih, e2]
      simp only [VD]
      rw [Int.pow_succ]; grind
  exact key l.length
theorem okD_cons (x : Int) (l : List Int) (h : okD l) (h0 : 0 ≤ x) (h1 : x < 10000) : okD ([x] ++ l) := fun i hi => by
  cases i with
  | zero => exact ⟨h0, h1⟩
  | succ i => exact h i (by simp at hi; omega)
theorem take_rd (l : List Int) (i : Nat) (h : i < l.length) : l.take i ++ [rd l (i : Int)] = l.take (i + 1) := by
  rw [List.take_add_one]
  congr 1
  show [l.getD i 0] = _
  rw [List.getD_eq_getElem?_getD, List.getElem?_eq_getElem h]; rfl
theorem w64m1 (n : Nat) (h2 : n ≤ 1000000) : wrap64 (((n + 1 : Nat) : Int) - 1) = (n : Int) := by unfold wrap64; omega
theorem w64p1 (n : Nat) (h2 : n ≤ 1000000) : wrap64 ((n : Int) + 1) = ((n + 1 : Nat) : Int) := by unfold wrap64; omega
def ValD (f : Nat → Option (List Int)) (v : Int) : Prop := ∃ r, EvS f (some r) ∧ nD r ∧ vD r = v
theorem ValD.succ {f g : Nat → Option (List Int)} {v : Int} (h : ValD g v) (hs : ∀ k, f (k + 1) = g k) : ValD f v := by
  obtain ⟨r, h1, h2, h3⟩ := h
  exact ⟨r, h1.succ 0 fun k _ => hs k, h2, h3⟩
theorem ValD.same {f g : Nat → Option (List Int)} {v : Int} (h : ValD g v) (hs : ∀ k, f k = g k) : ValD f v := by
  obtain ⟨r, h1, h2, h3⟩ := h
  exact ⟨r, h1.same hs, h2, h3⟩
theorem dtrim_l1 (l : List Int) (n : Nat) (hn : n ≤ l.length) (hl : l.length ≤ 1000000) : ∀ m i : Nat, n - i = m → i ≤ n → EvS (fun k => r1_trim.l1 k l (n : Int) (l.take i) (i : Int)) (some (l.take n))
  | 0, i, hm, hi => by
    obtain rfl : i = n := by omega
    exact EvS.now 0 fun k _ => by rw [r1_trim.l1, if_neg z3]
  | m + 1, i, hm, hi => by
    refine (dtrim_l1 l n hn hl m (i + 1) z3 z3).succ 0 fun k _ => ?_
    rw [r1_trim.l1, if_pos z3, if_pos z3, if_pos z3, if_pos (by rw [List.length_take]; omega), take_rd l i z3, w64p1 i z3]
theorem dtrim_l0 (l : List Int) (hl : l.length ≤ 1000000) : ∀ n : Nat, n ≤ l.length → (∀ i, n ≤ i → i < l.length → rd l (i : Int) = 0) →
    ∃ m, m ≤ n ∧ EvS (fun k => r1_trim.l0 k l (n : Int)) (some (l.take m)) ∧ (0 < m → rd l ((m - 1 : Nat) : Int) ≠ 0) ∧ (∀ i, m ≤ i → i < l.length → rd l (i : Int) = 0)
  | 0, hn, h => by
    have hj : EvS (fun k => r1_trim.j1 k l ((0 : Nat) : Int)) (some (l.take 0)) := (dtrim_l1 l 0 z3 hl 0 0 rfl z3).succ 0 fun k _ => rfl
    exact ⟨0, Nat.le_refl _, hj.succ 0 fun k _ => by rw [r1_trim.l0, if_neg z3], fun h => absurd h z3, h⟩
  | n + 1, hn, h => by
    by_cases hz : rd l (n : Int) = 0
    · obtain ⟨m, h1, h2, h3, h4⟩ := dtrim_l0 l hl n z3 (fun i a b => by
        by_cases e : i = n
        · subst e; exact hz
        · exact h i z3 b)
      exact ⟨m, by omega, h2.succ 0 fun k _ => by rw [r1_trim.l0, if_pos z3, w64m1 n z3, if_pos z3, if_pos z3, if_pos hz], h3, h4⟩
    · have hj : EvS (fun k => r1_trim.j1 k l ((n + 1 : Nat) : Int)) (some (l.take (n + 1))) := (dtrim_l1 l (n + 1) z3 hl (n + 1) 0 rfl z3).succ 0 fun k _ => rfl
      exact ⟨n + 1, Nat.le_refl _, hj.succ 0 fun k _ => by rw [r1_trim.l0, if_pos z3, w64m1 n z3, if_pos z3, if_pos z3, if_neg hz], fun _ => hz, h⟩
theorem dtrim_val (l : List Int) (hl : l.length ≤ 1000000) (ho : okD l) : ∃ r, EvS (fun k => r1_trim.f k l) (some r) ∧ nD r ∧ vD r = vD l ∧ r.length ≤ l.length := by
  obtain ⟨m, h1, h2, h3, h4⟩ := dtrim_l0 l hl l.length (Nat.le_refl _) (fun i a b => by omega)
  have hlen : (l.take m).length = m := by rw [List.length_take]; omega
  refine ⟨l.take m, h2, ⟨d10_okW_take l m ho, fun hp => ?_⟩, ?_, by omega⟩
  · rw [hlen] at hp ⊢
    rw [rd_take _ _ _ z3]
    have := (ho (m - 1) z3).1
    have := h3 hp
    omega
  · show VD (l.take m) (l.take m).length = VD l l.length
    rw [hlen, d10_V_take l m m (Nat.le_refl _), d10_V_zero l m h4 l.length h1 (Nat.le_refl _)]
theorem whole_val (l : List Int) (hl : l.length ≤ 1000000) (ho : okD l) : ∃ r, EvS (fun k => r1_whole.f k false l) (some (false, r)) ∧ nD r ∧ vD r = vD l ∧ r.length ≤ l.length := by
  obtain ⟨r, h1, h2⟩ := dtrim_val l hl ho
  refine ⟨r, ?_, h2⟩
  refine (h1.bind (g := fun k t => some (false, t)) ⟨0, fun _ _ => rfl⟩).same fun k => ?_
  show r1_whole.f k false l = _
  unfold r1_whole.f
  cases r1_trim.f k l <;> rfl
theorem dcmp_l0 (a b : List Int) (ha : okD a) (hb : okD b) (he : a.length = b.length) (hl : a.length ≤ 1000000) : ∀ n : Nat, n ≤ a.length → EvS (fun k => r1_cmpD.l0 k a b ((n : Int) - 1)) (some (sgnC (VD a n) (VD b n)))
  | 0, hn => EvS.now 0 fun k _ => by rw [r1_cmpD.l0, if_neg z3]; rfl
  | n + 1, hn => by
    have e : ((n + 1 : Nat) : Int) - 1 = (n : Int) := by omega
    obtain ⟨a1, a2⟩ := ha n z3
    obtain ⟨b1, b2⟩ := hb n z3
    obtain ⟨va1, va2⟩ := d10_V_any a ha n
    obtain ⟨vb1, vb2⟩ := d10_V_any b hb n
    have hp := d10_powB n
    rw [e]
    have ea : VD a (n + 1) = VD a n + rd a (n : Int) * 10000 ^ n := rfl
    have eb : VD b (n + 1) = VD b n + rd b (n : Int) * 10000 ^ n := rfl
    rcases Int.lt_trichotomy (rd a (n : Int)) (rd b (n : Int)) with h | h | h
    · refine EvS.now 0 fun k _ => ?_
      rw [r1_cmpD.l0, if_pos z3, if_pos z3, if_pos z3, if_pos z3, if_pos h]
      have h5 : (rd a (n : Int) + 1) * 10000 ^ n ≤ rd b (n : Int) * 10000 ^ n := Int.mul_le_mul_of_nonneg_right z3 z3
      rw [Int.add_mul] at h5
      unfold sgnC
      rw [if_pos z3]
    · have ih := dcmp_l0 a b ha hb he hl n z3
      have e2 : sgnC (VD a (n + 1)) (VD b (n + 1)) = sgnC (VD a n) (VD b n) := by
        unfold sgnC
        rw [ea, eb, h]
        by_cases h1 : VD a n < VD b n
        · rw [if_pos h1, if_pos z3]
        · rw [if_neg h1, if_neg z3]
          by_cases h2 : VD b n < VD a n
          · rw [if_pos h2, if_pos z3]
          · rw [if_neg h2, if_neg z3]
      rw [e2]
      refine ih.succ 0 fun k _ => ?_
      rw [r1_cmpD.l0, if_pos z3, if_pos z3, if_pos z3, if_pos z3, if_neg z3, if_neg z3]
      congr 1; unfold wrap64; omega
    · refine EvS.now 0 fun k _ => ?_
      rw [r1_cmpD.l0, if_pos z3, if_pos z3, if_pos z3, if_pos z3, if_neg z3, if_pos h]
      have h5 : (rd b (n : Int) + 1) * 10000 ^ n ≤ rd a (n : Int) * 10000 ^ n := Int.mul_le_mul_of_nonneg_right z3 z3
      rw [Int.add_mul] at h5
      unfold sgnC
      rw [if_neg z3, if_pos z3]
theorem dcmp_val (a b : List Int) (ha : nD a) (hb : nD b) (hl : a.length ≤ 1000000) (hl2 : b.length ≤ 1000000) : EvS (fun k => r1_cmpD.f k a b) (some (sgnC (vD a) (vD b))) := by
  by_cases he : a.length = b.length
  · have h := dcmp_l0 a b ha.1 hb.1 he hl a.length (Nat.le_refl _)
    have e : sgnC (vD a) (vD b) = sgnC (VD a a.length) (VD b a.length) := by show sgnC (VD a a.length) (VD b b.length) = _; rw [he]
    rw [e]
    refine h.same fun k => ?_
    show r1_cmpD.f k a b = _
    unfold r1_cmpD.f
    rw [if_neg z3, if_neg z3]
    congr 1; unfold wrap64; omega
  · refine ⟨0, fun k _ => ?_⟩
    show r1_cmpD.f k a b = _
    unfold r1_cmpD.f
    rcases Nat.lt_or_gt_of_ne he with h | h
    · have h1 := d10_len_lt a b ha.1 hb h
      rw [if_pos z3]
      unfold sgnC; rw [if_pos h1]
    · have h1 := d10_len_lt b a hb.1 ha h
      rw [if_neg z3, if_pos z3]
      unfold sgnC; rw [if_neg z3, if_pos h1]
end Go.Proofs.YtbanemecfobonaaDoor.B
end
section
namespace Go.Proofs.YtbanemecfobonaaDoor.B
open Go.RowKit Go.Proofs.YtbanemecfobonaaDoorW.PrintWords Go.Proofs.YtbanemecfobonaaDoorW.PrintLast Go.Proofs.YtbanemecfobonaaDoorW.PrintMore
set_option linter.unusedVariables false
set_option linter.unusedSimpArgs false
theorem w64t (x : Int) (h1 : -1000000000000000000 ≤ x) (h2 : x ≤ 1000000000000000000) : wrap64 x = x := by simp only [wrap64]; omega
theorem tmodD (x : Int) (h : 0 ≤ x) : Int.tmod x 10000 = x % 10000 := Int.tmod_eq_emod_of_nonneg h
theorem tdivD (x : Int) (h : 0 ≤ x) : Int.tdiv x 10000 = x / 10000 := Int.tdiv_eq_ediv_of_nonneg h
theorem subD_l0 (a b : List Int) (ha : okD a) (hb : okD b) (lab : b.length ≤ a.length) (hn : a.length ≤ 100000) (hle : vD b ≤ vD a) : ∀ (m i : Nat) (out : List Int) (c : Int), a.length - i = m → i ≤ a.length → out.length = i → okD out → 0 ≤ c → c ≤ 1 → vD out = VD a i - VD b i + c * 10000 ^ i →
    ValD (fun k => r1_subD.l0 k a b out c (i : Int)) (vD a - vD b) := by
  intro m
  induction m with
  | zero =>
    intro i out c hm hi ho hk hc0 hc1 hV
    obtain rfl : i = a.length := by omega
    obtain ⟨r, h1, h2, h3, h4⟩ := dtrim_val out z3 hk
    refine ⟨r, h1.succ 0 fun k _ => ?_, h2, ?_⟩
    · rw [r1_subD.l0, if_neg z3]
      cases r1_trim.f k out <;> rfl
    · have hb2 := (d10_V_any out hk out.length).2
      have e : vD out = VD out out.length := rfl
      have e2 : vD a = VD a a.length := rfl
      rw [ho] at hb2 e
      rw [d10_V_over b a.length lab] at hV
      rw [h3]
      rcases (show c = 0 ∨ c = 1 by omega) with h | h
      · subst h; omega
      · subst h; omega
  | succ m ih =>
    intro i out c hm hi ho hk hc0 hc1 hV
    obtain ⟨a1, a2⟩ := d10_rd_any a ha i
    obtain ⟨b1, b2⟩ := d10_rd_any b hb i
    obtain ⟨S, hS⟩ : ∃ S, S = rd a (i : Int) - c - rd b (i : Int) := ⟨_, rfl⟩
    have hlen : out.length < 17592186044416 := by omega
    have step : ∀ S' c' : Int, S' = S + c' * 10000 → 0 ≤ c' → c' ≤ 1 → 0 ≤ S' → S' < 10000 → ValD (fun k => r1_subD.l0 k a b (out ++ [S']) c' ((i + 1 : Nat) : Int)) (vD a - vD b) := fun S' c' h h0 h1 h2 h3 =>
      ih (i + 1) (out ++ [S']) c' z3 z3 (by rw [List.length_append, List.length_singleton, ho]) (okD_app out _ hk h2 h3) h0 h1 (by
        rw [vD_app, ho, Int.pow_succ]
        simp only [VD]
        rw [hV, h, hS]; grind)
    have e1 : rd a (i : Int) - c - rd b (i : Int) = S := hS.symm
    by_cases neg : S < 0
    · refine (step (S + 10000) 1 z3 z3 z3 z3 z3).succ fun k => ?_
      show r1_subD.l0 (k + 1) a b out c (i : Int) = _
      rw [r1_subD.l0, if_pos z3, if_pos z3, w64p1 i z3, w64t (rd a (i : Int) - c) z3 z3]
      by_cases cb : i < b.length
      · rw [if_pos z3, w64t (rd a (i : Int) - c - rd b (i : Int)) z3 z3, e1, if_pos neg, if_pos hlen, w64t (S + 10000) z3 z3]
      · have e2 : rd a (i : Int) - c = S := by rw [hS, rd_out b i z3]; omega
        rw [if_neg z3, e2, if_pos neg, if_pos hlen, w64t (S + 10000) z3 z3]
    · refine (step S 0 z3 z3 z3 z3 z3).succ fun k => ?_
      show r1_subD.l0 (k + 1) a b out c (i : Int) = _
      rw [r1_subD.l0, if_pos z3, if_pos z3, w64p1 i z3, w64t (rd a (i : Int) - c) z3 z3]
      by_cases cb : i < b.length
      · rw [if_pos z3, w64t (rd a (i : Int) - c - rd b (i : Int)) z3 z3, e1, if_neg neg, if_pos hlen]
      · have e2 : rd a (i : Int) - c = S := by rw [hS, rd_out b i z3]; omega
        rw [if_neg z3, e2, if_neg neg, if_pos hlen]
theorem subD_val (a b : List Int) (ha : okD a) (hb : okD b) (lab : b.length ≤ a.length) (hn : a.length ≤ 100000) (hle : vD b ≤ vD a) : ValD (fun k => r1_subD.f k a b) (vD a - vD b) :=
  subD_l0 a b ha hb lab hn hle a.length 0 [] 0 rfl z3 rfl (fun i hi => absurd hi (by simp)) z3 z3 (by show VD [] 0 = 0 - 0 + 0 * _; simp [VD])
end Go.Proofs.YtbanemecfobonaaDoor.B
end
section
namespace Go.Proofs.YtbanemecfobonaaDoor.B
open Go.RowKit Go.Proofs.YtbanemecfobonaaDoorW.PrintWords Go.Proofs.YtbanemecfobonaaDoorW.PrintLast Go.Proofs.YtbanemecfobonaaDoorW.PrintMore
set_option linter.unusedVariables false
set_option linter.unusedSimpArgs false
def EvP {α : Type} (f : Nat → Option α) (P : α → Prop) : Prop := ∃ r, EvS f (some r) ∧ P r
theorem EvP.same {α : Type} {f g : Nat → Option α} {P : α → Prop} (h : EvP g P) (hs : ∀ k, f k = g k) : EvP f P := by
  obtain ⟨r, h1, h2⟩ := h
  exact ⟨r, h1.same hs, h2⟩
theorem EvP.succ {α : Type} {f g : Nat → Option α} {P : α → Prop} (h : EvP g P) (hs : ∀ k, f (k + 1) = g k) : EvP f P := by
  obtain ⟨r, h1, h2⟩ := h
  exact ⟨r, h1.succ 0 fun k _ => hs k, h2⟩
theorem EvP.now {α : Type} {f : Nat → Option α} {P : α → Prop} (r : α) (hs : ∀ k, f (k + 1) = some r) (hP : P r) : EvP f P :=
  ⟨r, EvS.now 0 fun k _ => hs k, hP⟩
theorem EvP.at {α : Type} {f : Nat → Option α} {P : α → Prop} (r : α) (hs : ∀ k, f k = some r) (hP : P r) : EvP f P :=
  ⟨r, ⟨0, fun k _ => hs k⟩, hP⟩
theorem EvP.bind {α β : Type} {f : Nat → Option α} {P : α → Prop} {g : Nat → α → Option β} {Q : β → Prop} (h : EvP f P) (h2 : ∀ a, P a → EvP (fun k => g k a) Q) : EvP (fun k => (f k).bind (g k)) Q := by
  obtain ⟨a, h1, hP⟩ := h
  obtain ⟨b, h3, hQ⟩ := h2 a hP
  exact ⟨b, h1.bind h3, hQ⟩
theorem EvP.weak {α : Type} {f : Nat → Option α} {P Q : α → Prop} (h : EvP f P) (hs : ∀ a, P a → Q a) : EvP f Q := by
  obtain ⟨r, h1, h2⟩ := h
  exact ⟨r, h1, hs r h2⟩
def IsD (v : Int) (r : List Int) : Prop := nD r ∧ vD r = v
theorem ValD.evP {f : Nat → Option (List Int)} {v : Int} (h : ValD f v) : EvP f (IsD v) := by
  obtain ⟨r, h1, h2, h3⟩ := h
  exact ⟨r, h1, h2, h3⟩
theorem dwholeP (l : List Int) (hl : l.length ≤ 1000000) (ho : okD l) : EvP (fun k => r1_whole.f k false l) (fun r => r.1 = false ∧ IsD (vD l) r.2) := by
  obtain ⟨r, h1, h2, h3, h4⟩ := whole_val l hl ho
  exact ⟨(false, r), h1, rfl, h2, h3⟩
theorem dmul_bound (x y a b : Int) (hx0 : 0 ≤ x) (hx1 : x ≤ a) (hy0 : 0 ≤ y) (hy1 : y ≤ b) : 0 ≤ x * y ∧ x * y ≤ a * b :=
  ⟨Int.mul_nonneg hx0 hy0, Int.mul_le_mul hx1 hy1 hy0 z3⟩
theorem dmul_alg (Vo s0 s1 oj P c N d Vb bj P1 P2 S : Int) (hP : P = P1 * P2) (h4 : s0 + 10000 * s1 = S) (hS : S = oj + d * bj + c) (hV : Vo + c * P = N + d * Vb * P1) : Vo + (s0 - oj) * P + s1 * (P * 10000) = N + d * (Vb + bj * P2) * P1 := by
  grind
theorem mulD_l1 (b a : List Int) (hb : okD b) (ha : okD a) (hb2 : b.length ≤ 100000) (ha2 : a.length ≤ 100000) (i : Nat) (hi : i < a.length) (N v : Int)
    (H : ∀ out' : List Int, out'.length = a.length + b.length → okE out' (i + 1 + b.length) → VD out' (i + 1 + b.length) = N + rd a (i : Int) * vD b * 10000 ^ i → ValD (fun k => r1_mulD.l0 k a b out' ((i + 1 : Nat) : Int)) v) :
    ∀ (m j : Nat) (out : List Int) (c : Int), b.length - j = m → j ≤ b.length → out.length = a.length + b.length → okE out (i + b.length) → 0 ≤ c → c < 10000 → VD out (i + b.length) + c * 10000 ^ (i + j) = N + rd a (i : Int) * VD b j * 10000 ^ i →
    ValD (fun k => r1_mulD.l1 k a b out (i : Int) c (j : Int)) v
  | 0, j, out, c, hm, hj, ho, hk, hc0, hc1, hV => by
    have HV := aM hV
    clear hV
    obtain rfl : j = b.length := by omega
    have e : i + 1 + b.length = (i + b.length) + 1 := by omega
    have hk2 : okE (out.set (i + b.length) c) (i + 1 + b.length) := by
      rw [e]; exact d10_okT_put out _ _ hk z3 z3 z3
    have hV2 : Aside0 (VD (out.set (i + b.length) c) (i + 1 + b.length) = N + rd a (i : Int) * vD b * 10000 ^ i) := by
      constructor
      rw [e, d10_V_put out _ _ z3, HV.out]
    refine (H _ (by rw [List.length_set]; exact ho) hk2 hV2.out).succ fun k => ?_
    have e1 : wrap64 ((i : Int) + (b.length : Int)) = ((i + b.length : Nat) : Int) := by unfold wrap64; omega
    have q1 : ¬ (b.length : Int) < (b.length : Int) := by omega
    have q2 : (0 : Int) ≤ ((i + b.length : Nat) : Int) := Int.natCast_nonneg _
    have q3 : ((i + b.length : Nat) : Int) < (out.length : Int) := by omega
    show r1_mulD.l1 (k + 1) a b out (i : Int) c (b.length : Int) = _
    rw [r1_mulD.l1, if_neg q1, e1, if_pos q2, if_pos q3, Int.toNat_natCast, w64p1 i z3]
  | m + 1, j, out, c, hm, hj, ho, hk, hc0, hc1, hV => by
    have HV := aM hV
    clear hV
    have e1 : wrap64 ((i : Int) + (j : Int)) = ((i + j : Nat) : Int) := by unfold wrap64; omega
    have q1 : (j : Int) < (b.length : Int) := by omega
    have q2 : (0 : Int) ≤ (j : Int) := by omega
    have q3 : (0 : Int) ≤ ((i + j : Nat) : Int) := Int.natCast_nonneg _
    have q4 : ((i + j : Nat) : Int) < (out.length : Int) := by omega
    have q5 : (0 : Int) ≤ (i : Int) := by omega
    have q6 : (i : Int) < (a.length : Int) := by omega
    obtain ⟨b1, b2⟩ := hb j z3
    obtain ⟨a1, a2⟩ := ha i hi
    obtain ⟨o1, o2⟩ := hk (i + j) z3
    obtain ⟨p1, p2⟩ := dmul_bound (rd a (i : Int)) (rd b (j : Int)) 9999 9999 z3 z3 z3 z3
    obtain ⟨S, hS⟩ : ∃ S, S = rd out ((i + j : Nat) : Int) + rd a (i : Int) * rd b (j : Int) + c := ⟨_, rfl⟩
    have hk2 : okE (out.set (i + j) (S % 10000)) (i + b.length) := d10_okT_set out _ _ _ hk z3 z3 z3
    have hV2 : Aside0 (VD (out.set (i + j) (S % 10000)) (i + b.length) + S / 10000 * 10000 ^ (i + (j + 1)) = N + rd a (i : Int) * VD b (j + 1) * 10000 ^ i) := by
      constructor
      rw [d10_V_set out (i + j) _ z3 _ z3, if_pos z3]
      have hV := HV.out
      have e2 : (10000 : Int) ^ (i + (j + 1)) = 10000 ^ (i + j) * 10000 := Int.pow_succ _ _
      rw [e2]
      exact dmul_alg _ _ _ _ _ _ _ _ _ _ _ _ S (Int.pow_add _ _ _) (Int.emod_add_mul_ediv S 10000) hS hV
    refine (mulD_l1 b a hb ha hb2 ha2 i hi N v H m (j + 1) _ (S / 10000) z3 z3 (by rw [List.length_set]; exact ho) hk2 z3 z3 hV2.out).succ fun k => ?_
    show r1_mulD.l1 (k + 1) a b out (i : Int) c (j : Int) = _
    rw [r1_mulD.l1, if_pos q1, e1, if_pos q3, if_pos q4, if_pos q5, if_pos q6, if_pos q2, Int.toNat_natCast, w64p1 j z3, w64t (rd a (i : Int) * rd b (j : Int)) z3 z3, w64t (rd out ((i + j : Nat) : Int) + rd a (i : Int) * rd b (j : Int)) z3 z3, w64t (rd out ((i + j : Nat) : Int) + rd a (i : Int) * rd b (j : Int) + c) z3 z3, ← hS, tmodD S z3, tdivD S z3, w64t (S / 10000) z3 z3]
theorem mulD_l0 (b a : List Int) (ha : okD a) (hb : okD b) (hb2 : b.length ≤ 100000) (ha2 : a.length ≤ 100000) : ∀ (m i : Nat) (out : List Int), a.length - i = m → i ≤ a.length → out.length = a.length + b.length → okE out (i + b.length) → VD out (i + b.length) = VD a i * vD b →
    ValD (fun k => r1_mulD.l0 k a b out (i : Int)) (vD a * vD b)
  | 0, i, out, hm, hi, ho, hk, hV => by
    obtain rfl : i = a.length := by omega
    obtain ⟨r, h1, h2, h3, h4⟩ := dtrim_val out z3 (fun j hj => hk j z3)
    refine ⟨r, h1.succ 0 fun k _ => ?_, h2, ?_⟩
    · rw [r1_mulD.l0, if_neg z3]
      cases r1_trim.f k out <;> rfl
    · rw [h3]
      show VD out out.length = _
      rw [ho, hV]
  | m + 1, i, out, hm, hi, ho, hk, hV => by
    have hz : VD out (i + b.length) + 0 * 10000 ^ (i + 0) = VD a i * vD b + rd a (i : Int) * VD b 0 * 10000 ^ i := by
      rw [hV]; simp [VD]
    refine (mulD_l1 b a hb ha hb2 ha2 i z3 (VD a i * vD b) _ (fun out' h1 h2 h3 => mulD_l0 b a ha hb hb2 ha2 m (i + 1) out' z3 z3 h1 h2 (by rw [h3]; simp only [VD]; grind)) b.length 0 out 0 rfl z3 ho hk z3 z3 hz).succ fun k => ?_
    show r1_mulD.l0 (k + 1) a b out (i : Int) = _
    rw [r1_mulD.l0, if_pos z3]; rfl
theorem mulD_val (a b : List Int) (ha : okD a) (hb : okD b) (ha2 : a.length ≤ 100000) (hb2 : b.length ≤ 100000) : ValD (fun k => r1_mulD.f k a b) (vD a * vD b) := by
  refine (mulD_l0 b a ha hb hb2 ha2 a.length 0 (List.replicate (a.length + b.length) 0) z3 z3 List.length_replicate (fun i hi => by rw [rd_rep]; omega) (by rw [d10_V_rep]; simp [VD])).same fun k => ?_
  have e1 : wrap64 ((a.length : Int) + (b.length : Int)) = ((a.length + b.length : Nat) : Int) := by unfold wrap64; omega
  show r1_mulD.f k a b = _
  unfold r1_mulD.f
  rw [e1, if_pos z3, Int.toNat_natCast, if_pos z3]; rfl
theorem of_l0D : ∀ (m : Nat) (n : Int) (out : List Int), 0 ≤ n → n < 10000 ^ m → n ≤ 9223372036854775807 → out.length + m ≤ 1000 → okD out →
    EvP (fun k => r1_Of.l0 k n out false) (fun r => r.1 = false ∧ IsD (vD out + n * 10000 ^ out.length) r.2)
  | 0, n, out, h0, h1, h2, h3, h4 => by
    obtain rfl : n = 0 := by simp at h1; omega
    have e : vD out + 0 * 10000 ^ out.length = vD out := by omega
    rw [e]
    refine (dwholeP out z3 h4).succ fun k => ?_
    show r1_Of.l0 (k + 1) 0 out false = _
    rw [r1_Of.l0, if_pos rfl]
    cases r1_whole.f k false out <;> rfl
  | m + 1, n, out, h0, h1, h2, h3, h4 => by
    by_cases hz : n = 0
    · subst hz
      have e : vD out + 0 * 10000 ^ out.length = vD out := by omega
      rw [e]
      refine (dwholeP out z3 h4).succ fun k => ?_
      show r1_Of.l0 (k + 1) 0 out false = _
      rw [r1_Of.l0, if_pos rfl]
      cases r1_whole.f k false out <;> rfl
    · have hlt : n / 10000 < 10000 ^ m := by
        rw [Int.pow_succ] at h1
        exact Int.ediv_lt_of_lt_mul z3 h1
      have ih := of_l0D m (n / 10000) (out ++ [n % 10000]) z3 hlt z3 (by rw [List.length_append, List.length_singleton]; omega) (okD_app out _ h4 z3 z3)
      have e : vD (out ++ [n % 10000]) + n / 10000 * 10000 ^ (out ++ [n % 10000]).length = vD out + n * 10000 ^ out.length := by
        rw [vD_app, List.length_append, List.length_singleton, Int.pow_succ]
        have := Int.emod_add_mul_ediv n 10000
        grind
      rw [e] at ih
      refine ih.succ fun k => ?_
      show r1_Of.l0 (k + 1) n out false = _
      rw [r1_Of.l0, if_neg hz, tmodD n h0, tdivD n h0, if_neg z3, if_pos z3, w64s (n / 10000) z3 z3]
theorem ofD (n : Int) (h0 : 0 ≤ n) (h1 : n ≤ 9223372036854775807) : EvP (fun k => r1_Of.f k n) (fun r => r.1 = false ∧ IsD n r.2 ∧ r.2.length ≤ 5) := by
  obtain ⟨r, h2, h3, h4⟩ := of_l0D 5 n [] h0 (by show n < 10000 ^ 5; omega) h1 (by simp) (fun i hi => absurd hi (by simp))
  have e : vD [] + n * 10000 ^ ([] : List Int).length = n := by show 0 + n * 1 = n; omega
  rw [e] at h4
  refine ⟨r, h2.same fun k => ?_, h3, h4, ?_⟩
  · show r1_Of.f k n = _
    unfold r1_Of.f
    rw [dF z3]
  · exact d10_len_of r.2 h4.1 5 (by rw [h4.2]; omega)
theorem timesD (a b : List Int) (ha : nD a) (hb : nD b) (ha2 : a.length ≤ 1000) (hb2 : b.length ≤ 1000) : EvP (fun k => r1_Times.f k false a false b) (fun r => r.1 = false ∧ IsD (vD a * vD b) r.2 ∧ r.2.length ≤ a.length + b.length) := by
  refine ((mulD_val a b ha.1 hb.1 z3 z3).evP.bind (g := fun k t => (r1_whole.f k false t).bind fun bt => some (bt.1, bt.2)) (Q := fun r => r.1 = false ∧ IsD (vD a * vD b) r.2 ∧ r.2.length ≤ a.length + b.length) fun t ht => ?_).same fun k => rfl
  have hl := d10_times_len a b t ha hb ht.1 ht.2
  refine ((dwholeP t z3 ht.1.1).weak (Q := fun r => r.1 = false ∧ IsD (vD a * vD b) r.2 ∧ r.2.length ≤ a.length + b.length) fun r hr => ⟨hr.1, ⟨hr.2.1, by rw [hr.2.2, ht.2]⟩, d10_times_len a b r.2 ha hb hr.2.1 (by rw [hr.2.2, ht.2])⟩).same fun k => ?_
  cases r1_whole.f k false t <;> rfl
theorem compareD (a b : List Int) (ha : nD a) (hb : nD b) (ha2 : a.length ≤ 1000000) (hb2 : b.length ≤ 1000000) : EvS (fun k => r1_Compare.f k false a false b) (some (sgnC (vD a) (vD b))) := by
  refine (dcmp_val a b ha hb ha2 hb2).same fun k => ?_
  show r1_Compare.f k false a false b = _
  unfold r1_Compare.f
  rw [if_neg z10]
  cases r1_cmpD.f k a b <;> rfl
end Go.Proofs.YtbanemecfobonaaDoor.B
end
section
namespace Go.Proofs.YtbanemecfobonaaDoor.B
open Go.RowKit Go.Proofs.YtbanemecfobonaaDoorW.PrintWords Go.Proofs.YtbanemecfobonaaDoorW.PrintLast Go.Proofs.YtbanemecfobonaaDoorW.PrintMore
set_option linter.unusedVariables false
set_option linter.unusedSimpArgs false
theorem vD_one (x : Int) : vD [x] = x := by show 0 + x * 1 = x; omega
theorem okD_one (x : Int) (h0 : 0 ≤ x) (h1 : x < 10000) : okD [x] := fun i hi => by
  obtain rfl : i = 0 := by simp at hi; omega
  exact ⟨h0, h1⟩
theorem nD_nil : nD [] := ⟨fun i hi => absurd hi (by simp), fun h => absurd h (by simp)⟩
theorem pos_len (b : List Int) (hb : nD b) (h : 0 < vD b) : 0 < b.length := by
  rcases Nat.eq_zero_or_pos b.length with h1 | h1
  · have := (d10_nil_iff b hb).mp h1; omega
  · exact h1
theorem digitD (b : List Int) (hb : nD b) (hb2 : b.length ≤ 1000) (x : Int) (h0 : 0 ≤ x) (h1 : x < 10000) {β : Type} {g : Nat → List Int → Option β} {Q : β → Prop} (H : ∀ p, IsD (vD b * x) p → p.length ≤ b.length + 1 → EvP (fun k => g k p) Q) :
    EvP (fun k => (r1_trim.f k [x]).bind fun t => (r1_mulD.f k b t).bind (g k)) Q := by
  obtain ⟨t, t1, t2, t3, t4⟩ := dtrim_val [x] (by simp) (okD_one x h0 h1)
  have hl : t.length ≤ 1 := t4
  obtain ⟨p, p1, p2, p3⟩ := mulD_val b t hb.1 t2.1 z3 z3
  rw [t3, vD_one] at p3
  obtain ⟨r, r1, r2⟩ := H p ⟨p2, p3⟩ (by have := d10_times_len b t p hb t2 p2 (by rw [p3, t3, vD_one]); omega)
  exact ⟨r, t1.bind (g := fun k t => (r1_mulD.f k b t).bind (g k)) (p1.bind r1), r2⟩
theorem sgn_le (a b : Int) : sgnC a b ≤ 0 ↔ a ≤ b := by
  unfold sgnC
  by_cases h : a < b
  · rw [if_pos h]; omega
  · rw [if_neg h]
    by_cases h2 : b < a
    · rw [if_pos h2]; omega
    · rw [if_neg h2]; omega
theorem divD_l1 (a b q rem : List Int) (x8 : Int) (hb : nD b) (hb2 : b.length ≤ 1000) (hr : nD rem) (hr2 : rem.length ≤ 1001) (h8 : 0 ≤ x8) (h9 : x8 < (q.length : Int)) (Q : List Int × List Int → Prop)
    (H : ∀ (L : Int) (r : List Int), 0 ≤ L → L ≤ 9999 → vD b * L ≤ vD rem → vD rem < vD b * (L + 1) → IsD (vD rem - vD b * L) r → EvP (fun k => r1_divD.l0 k a b (q.set x8.toNat L) r (wrap64 (x8 - 1))) Q) :
    ∀ (m : Nat) (lo hi : Int), 0 ≤ lo → lo ≤ hi → hi ≤ 9999 → hi - lo ≤ m → vD b * lo ≤ vD rem → vD rem < vD b * (hi + 1) → EvP (fun k => r1_divD.l1 k a b q rem x8 lo hi) Q := by
  have fin : ∀ lo : Int, 0 ≤ lo → lo ≤ 9999 → vD b * lo ≤ vD rem → vD rem < vD b * (lo + 1) → EvP (fun k => r1_divD.l1 k a b q rem x8 lo lo) Q := fun lo h0 h1 h2 h3 => by
    refine (digitD b hb hb2 lo h0 z3 (g := fun k p => (r1_subD.f k rem p).bind fun r => r1_divD.l0 k a b (q.set x8.toNat lo) r (wrap64 (x8 - 1))) (Q := Q) fun p hp hl => ?_).succ fun k => ?_
    · have hle : vD p ≤ vD rem := by rw [hp.2]; exact h2
      have hlen := d10_len_le p rem hp.1 hr.1 hle
      refine (subD_val rem p hr.1 hp.1.1 hlen z3 hle).evP.bind (g := fun k r => r1_divD.l0 k a b (q.set x8.toNat lo) r (wrap64 (x8 - 1))) fun r hrr => ?_
      exact H lo r h0 h1 h2 h3 ⟨hrr.1, by rw [hrr.2, hp.2]⟩
    · show r1_divD.l1 (k + 1) a b q rem x8 lo lo = _
      rw [r1_divD.l1, if_neg z3, if_pos h8, if_pos h9]
  intro m
  induction m with
  | zero =>
    intro lo hi h0 h1 h2 h3 h4 h5
    obtain rfl : hi = lo := by omega
    exact fin _ h0 h2 h4 h5
  | succ m ih =>
    intro lo hi h0 h1 h2 h3 h4 h5
    by_cases e : lo < hi
    · have em : wrap64 (Int.tdiv (wrap64 (wrap64 (lo + hi) + 1)) 2) = (lo + hi + 1) / 2 := by
        rw [w64t (lo + hi) z3 z3, w64t (lo + hi + 1) z3 z3, Int.tdiv_eq_ediv_of_nonneg z3, w64t _ z3 z3]
      obtain ⟨mid, hmid⟩ : ∃ mid, mid = (lo + hi + 1) / 2 := ⟨_, rfl⟩
      rw [← hmid] at em
      refine (digitD b hb hb2 mid z3 z3 (g := fun k p => (r1_cmpD.f k p rem).bind fun c => if c ≤ 0 then r1_divD.l1 k a b q rem x8 mid hi else r1_divD.l1 k a b q rem x8 lo (wrap64 (mid - 1))) (Q := Q) fun p hp hl => ?_).succ fun k => ?_
      · obtain ⟨K, hK⟩ := dcmp_val p rem hp.1 hr z3 z3
        rw [hp.2] at hK
        by_cases c : vD b * mid ≤ vD rem
        · obtain ⟨r, ⟨K2, r1⟩, r2⟩ := ih mid hi z3 z3 h2 z3 c h5
          refine ⟨r, ⟨max K K2, fun k hk => ?_⟩, r2⟩
          have e1 : r1_cmpD.f k p rem = _ := hK k z3
          show (r1_cmpD.f k p rem).bind _ = _
          rw [e1, Option.bind_some, if_pos ((sgn_le _ _).mpr c)]
          exact r1 k z3
        · obtain ⟨r, ⟨K2, r1⟩, r2⟩ := ih lo (mid - 1) h0 z3 z3 z3 h4 (by rw [show mid - 1 + 1 = mid by omega]; omega)
          refine ⟨r, ⟨max K K2, fun k hk => ?_⟩, r2⟩
          have e1 : r1_cmpD.f k p rem = _ := hK k z3
          show (r1_cmpD.f k p rem).bind _ = _
          rw [e1, Option.bind_some, if_neg (fun h => c ((sgn_le _ _).mp h)), w64t (mid - 1) z3 z3]
          exact r1 k z3
      · show r1_divD.l1 (k + 1) a b q rem x8 lo hi = _
        rw [r1_divD.l1, if_pos e, em]
    · obtain rfl : hi = lo := by omega
      exact fin _ h0 h2 h4 h5
theorem divD_l0 (a b : List Int) (ha : okD a) (hb : nD b) (ha2 : a.length ≤ 1000) (hb2 : b.length ≤ 1000) (hb0 : 0 < vD b) : ∀ (i : Nat) (q rem : List Int), i ≤ a.length → q.length = a.length → okD q → (∀ t, t < i → rd q (t : Int) = 0) → nD rem → vD rem < vD b →
    EvP (fun k => r1_divD.l0 k a b q rem ((i : Int) - 1)) (fun r => nD r.1 ∧ nD r.2 ∧ 0 ≤ vD r.2 ∧ vD r.2 < vD b ∧ vD r.1 * vD b + vD r.2 = VD a i + vD rem * 10000 ^ i + vD q * vD b)
  | 0, q, rem, hi, hq, hok, hz, hr, hlt => by
    obtain ⟨t, t1, t2, t3, t4⟩ := dtrim_val q z3 hok
    refine ⟨(t, rem), ?_, t2, hr, d10_vW_nonneg rem hr.1, hlt, ?_⟩
    · refine (t1.bind (g := fun k t => some (t, rem)) ⟨0, fun _ _ => rfl⟩).succ 0 fun k _ => ?_
      show r1_divD.l0 (k + 1) a b q rem _ = _
      rw [r1_divD.l0, if_neg z3]
    · show vD t * vD b + vD rem = 0 + vD rem * 1 + vD q * vD b
      rw [t3]; omega
  | i + 1, q, rem, hi, hq, hok, hz, hr, hlt => by
    have ex : ((i + 1 : Nat) : Int) - 1 = (i : Int) := by omega
    rw [ex]
    obtain ⟨a1, a2⟩ := ha i z3
    have hrl := d10_len_le rem b hr hb.1 z3
    obtain ⟨t, t1, t2, t3, t4⟩ := dtrim_val ([rd a (i : Int)] ++ rem) (by simp; omega) (okD_cons _ rem hr.1 a1 a2)
    rw [vD_cons] at t3
    have r0 := d10_vW_nonneg rem hr.1
    have tl : t.length ≤ 1001 := by simp at t4; omega
    have main : EvP (fun k => r1_divD.l1 k a b q t (i : Int) 0 9999) (fun r => nD r.1 ∧ nD r.2 ∧ 0 ≤ vD r.2 ∧ vD r.2 < vD b ∧ vD r.1 * vD b + vD r.2 = VD a (i + 1) + vD rem * 10000 ^ (i + 1) + vD q * vD b) := by
      refine divD_l1 a b q t (i : Int) hb hb2 t2 tl z3 z3 _ (fun L r h0 h1 h2 h3 hL => ?_) 9999 0 9999 z3 z3 z3 z3 z3 z3
      have hset : okD (q.set i L) := fun j hj => by
        rw [List.length_set] at hj
        rw [rd_put q i L j z3]
        split
        · exact ⟨h0, by omega⟩
        · exact hok j hj
      have hv : vD (q.set i L) = vD q + L * 10000 ^ i := by
        show VD (q.set i L) (q.set i L).length = VD q q.length + _
        rw [List.length_set, d10_V_set q i L z3 _ (Nat.le_refl _), if_pos z3, hz i z3, Int.sub_zero]
      have e3 : vD b * (L + 1) = vD b * L + vD b := by grind
      have ih := divD_l0 a b ha hb ha2 hb2 hb0 i (q.set i L) r z3 (by rw [List.length_set]; exact hq) hset (fun j hj => by rw [rd_put q i L j z3, if_neg z3]; exact hz j z3) hL.1 (by rw [hL.2]; omega)
      rw [Int.toNat_natCast, w64t ((i : Int) - 1) z3 z3]
      refine ih.weak fun p hp => ⟨hp.1, hp.2.1, hp.2.2.1, hp.2.2.2.1, ?_⟩
      rw [hp.2.2.2.2, hv, hL.2, t3]
      simp only [VD]
      rw [Int.pow_succ]; grind
    obtain ⟨r, r1, r2⟩ := main
    refine ⟨r, ?_, r2⟩
    refine (t1.bind (g := fun k t => r1_divD.l1 k a b q t (i : Int) 0 9999) r1).succ 0 fun k _ => ?_
    show r1_divD.l0 (k + 1) a b q rem (i : Int) = _
    rw [r1_divD.l0, if_pos z3, if_pos z3, if_pos z3, Option.bind_some, if_pos (by simp; omega)]
theorem divD_val (a b : List Int) (ha : nD a) (hb : nD b) (ha2 : a.length ≤ 1000) (hb2 : b.length ≤ 1000) (hb0 : 0 < vD b) : EvP (fun k => r1_divD.f k a b) (fun r => IsD (vD a / vD b) r.1 ∧ IsD (vD a % vD b) r.2) := by
  have hp := pos_len b hb hb0
  refine ((divD_l0 a b ha.1 hb ha2 hb2 hb0 a.length (List.replicate a.length 0) [] (Nat.le_refl _) List.length_replicate (fun i hi => by rw [rd_rep]; omega) (fun t _ => rd_rep _ _) nD_nil hb0).weak (Q := fun r => IsD (vD a / vD b) r.1 ∧ IsD (vD a % vD b) r.2) fun r hr => ?_).same fun k => ?_
  · obtain ⟨h1, h2, h3, h4, h5⟩ := hr
    have e0 : vD (List.replicate a.length (0 : Int)) = 0 := by show VD _ _ = 0; rw [d10_V_rep]
    have e1 : vD ([] : List Int) = 0 := rfl
    have e2 : VD a a.length = vD a := rfl
    rw [e0, e1, e2] at h5
    have h6 : vD a = vD r.2 + vD r.1 * vD b := by omega
    refine ⟨⟨h1, ?_⟩, h2, ?_⟩
    · rw [h6, Int.add_mul_ediv_right _ _ z3, Int.ediv_eq_zero_of_lt h3 h4]; omega
    · rw [h6, Int.add_mul_emod_self_right, Int.emod_eq_of_lt h3 h4]
  · show r1_divD.f k a b = _
    unfold r1_divD.f
    rw [if_neg z3, if_pos z3, if_pos z3, Int.toNat_natCast, w64t ((a.length : Int) - 1) z3 z3]
theorem gcdD_l0 : ∀ (m : Nat) (a b : List Int), nD a → nD b → a.length ≤ 1000 → b.length ≤ 1000 → vD b ≤ m → EvP (fun k => r1_gcdD.l0 k a b) (IsD (Int.gcd (vD a) (vD b) : Int)) := by
  intro m
  induction m using Nat.strongRecOn with
  | _ m ih =>
    intro a b ha hb ha2 hb2 hm
    have a0 := d10_vW_nonneg a ha.1
    have b0 := d10_vW_nonneg b hb.1
    by_cases hz : vD b = 0
    · have hl := (d10_nil_iff b hb).mpr hz
      refine EvP.now a (fun k => ?_) ⟨ha, ?_⟩
      · rw [r1_gcdD.l0, if_neg z3]
      · rw [hz, Int.gcd_zero_right]; omega
    · have hp := pos_len b hb z3
      refine ((divD_val a b ha hb ha2 hb2 z3).bind (g := fun k r => r1_gcdD.l0 k b r.2) (Q := IsD (Int.gcd (vD a) (vD b) : Int)) fun r hr => ?_).succ fun k => ?_
      · have m0 := Int.emod_nonneg (vD a) hz
        have m1 := Int.emod_lt_of_pos (vD a) (show 0 < vD b by omega)
        have hl2 := d10_len_le r.2 b hr.2.1 hb.1 (by rw [hr.2.2]; omega)
        have h := ih (vD a % vD b).toNat z3 b r.2 hb hr.2.1 hb2 z3 (by rw [hr.2.2]; omega)
        rw [hr.2.2] at h
        have e : Int.gcd (vD b) (vD a % vD b) = Int.gcd (vD a) (vD b) := by
          rw [Int.gcd_comm (vD a) (vD b)]
          obtain ⟨x, hx⟩ := Int.eq_ofNat_of_zero_le a0
          obtain ⟨y, hy⟩ := Int.eq_ofNat_of_zero_le b0
          rw [hx, hy]
          have : ((x : Int) % (y : Int)) = ((x % y : Nat) : Int) := by omega
          rw [this, Int.gcd_natCast_natCast, Int.gcd_natCast_natCast, Nat.gcd_comm y (x % y), ← Nat.gcd_rec]
        rw [e] at h
        exact h
      · show r1_gcdD.l0 (k + 1) a b = _
        rw [r1_gcdD.l0, if_pos z3]
theorem gcdD_val (a b : List Int) (ha : nD a) (hb : nD b) (ha2 : a.length ≤ 1000) (hb2 : b.length ≤ 1000) : EvP (fun k => r1_gcdD.f k a b) (IsD (Int.gcd (vD a) (vD b) : Int)) :=
  gcdD_l0 (vD b).toNat a b ha hb ha2 hb2 (by have := d10_vW_nonneg b hb.1; omega)
theorem overD (a b : List Int) (ha : nD a) (hb : nD b) (ha2 : a.length ≤ 1000) (hb2 : b.length ≤ 1000) (hb0 : 0 < vD b) : EvP (fun k => r1_Over.f k false a false b) (fun r => r.1 = false ∧ IsD (vD a / vD b) r.2.1 ∧ r.2.1.length ≤ a.length) := by
  have a0 := d10_vW_nonneg a ha.1
  refine ((divD_val a b ha hb ha2 hb2 hb0).bind (g := fun k r => (r1_whole.f k false r.1).bind fun x => (r1_whole.f k false r.2).bind fun y => some (x.1, x.2, y.1, y.2)) (Q := fun r => r.1 = false ∧ IsD (vD a / vD b) r.2.1 ∧ r.2.1.length ≤ a.length) fun r hr => ?_).same fun k => ?_
  · have d1 : vD a / vD b ≤ vD a := Int.ediv_le_self _ a0
    have m1 : vD a % vD b ≤ vD b := by have := Int.emod_lt_of_pos (vD a) hb0; omega
    have l1 := d10_len_le r.1 a hr.1.1 ha.1 (by rw [hr.1.2]; omega)
    have l2 := d10_len_le r.2 b hr.2.1 hb.1 (by rw [hr.2.2]; omega)
    refine (dwholeP r.1 z3 hr.1.1.1).bind (g := fun k x => (r1_whole.f k false r.2).bind fun y => some (x.1, x.2, y.1, y.2)) fun x hx => ?_
    refine (dwholeP r.2 z3 hr.2.1.1).bind (g := fun k y => some (x.1, x.2, y.1, y.2)) fun y hy => ?_
    have e := hr.1.2
    refine EvP.at _ (fun k => rfl) ⟨hx.1, ⟨hx.2.1, by show vD x.2 = _; rw [hx.2.2, e]⟩, ?_⟩
    exact d10_len_le x.2 a hx.2.1 ha.1 (by rw [hx.2.2, e]; omega)
  · show r1_Over.f k false a false b = _
    unfold r1_Over.f
    cases r1_divD.f k a b <;> rfl
end Go.Proofs.YtbanemecfobonaaDoor.B
end
