/- Written by a program (lite.py) from my texts. -/
import Derived.Test.YtbanemecfobonaaDoorGVv
import Derived.Test.YtbanemecfobonaaDoorU12v
namespace Go.Proofs.YtbanemecfobonaaDoor.B
open Go.RowKit Go.Proofs.YtbanemecfobonaaDoorW.PrintWords Go.Proofs.YtbanemecfobonaaDoorW.PrintLast Go.Proofs.YtbanemecfobonaaDoorW.PrintMore
set_option linter.unusedVariables false
set_option linter.unusedSimpArgs false
theorem waitD_each (b : Int) (x : S55) (win : List S55) (hx : okM x = true) (hw : ∀ k, k < win.length → okM (rd_T55 win (k : Int)) = true) : ∀ (n : Nat) (q v worst : Int), 0 ≤ q → 0 ≤ v → v ≤ waitN b q x win v → (waitD b x win n q v worst).2 = true →
    ∀ a : Nat, a < n → ∃ W, 0 ≤ W ∧ waitN b (q + a) x win W = W ∧ x.f3 + W - (q + a) * x.f2 + bitsM x ≤ (waitD b x win n q v worst).1
  | 0, q, v, worst, h0, h1, h2, h, a, ha => by omega
  | n + 1, q, v, worst, h0, h1, h2, h, a, ha => by
    have m1 : MonoF (waitN b q x win) := fun s t _ hst => waitN_mono hw hst
    simp only [waitD] at h ⊢
    have hT := fixQ_true (waitN b q x win) m1 v h1 h2
    generalize fixQ (waitN b q x win) v = s at h hT ⊢
    by_cases c : s.2 = false ∨ 10000000 < max worst (x.f3 + s.1 - q * x.f2 + bitsM x)
    · rw [if_pos c] at h; cases h
    rw [if_neg c] at h ⊢
    have e : s.2 = true := by
      cases h' : s.2
      · exact absurd (.inl h') c
      · rfl
    obtain ⟨t1, t2, t3⟩ := hT e
    have hb := okM_pos hx
    have hge := waitD_ge b x win n (q + 1) s.1 (max worst (x.f3 + s.1 - q * x.f2 + bitsM x)) h
    cases a with
    | zero =>
      refine ⟨s.1, by omega, ?_, ?_⟩
      · rw [show q + ((0 : Nat) : Int) = q by omega]; exact t3
      · rw [show q + ((0 : Nat) : Int) = q by omega]; omega
    | succ a =>
      obtain ⟨W, w1, w2, w3⟩ := waitD_each b x win hx hw n (q + 1) s.1 _ z3 z3 (by rw [waitN_next hx, t3]; omega) h a z3
      have ea : q + ((a + 1 : Nat) : Int) = q + 1 + (a : Int) := by omega
      exact ⟨W, w1, by rw [ea]; exact w2, by rw [ea]; exact w3⟩
theorem delayD_each (x : S55) (win : List S55) (b : Int) (hx : okM x = true) (hw : ∀ k, k < win.length → okM (rd_T55 win (k : Int)) = true) (hb : 0 ≤ b) (h : (delayD x win b).2 = true) :
    ∃ t, 1 ≤ t ∧ busyN b x win t = t ∧ ∀ a : Nat, (a : Int) < inst x t → ∃ W, 0 ≤ W ∧ waitN b (a : Int) x win W = W ∧ x.f3 + W - (a : Int) * x.f2 + bitsM x ≤ (delayD x win b).1 := by
  have m1 : MonoF (busyN b x win) := fun s t _ hst => busyN_mono hx hw hst
  have o1 := busyN_one hx hw hb
  unfold delayD at h ⊢
  by_cases c : 0 ≤ sgnC (fracTo ([x] ++ win) ([x] ++ win).length).1 (fracTo ([x] ++ win) ([x] ++ win).length).2
  · rw [if_pos c] at h; cases h
  rw [if_neg c] at h ⊢
  have hT := fixQ_true (busyN b x win) m1 1 z3 o1
  generalize fixQ (busyN b x win) 1 = s at h hT ⊢
  by_cases c2 : s.2 = false
  · rw [if_pos c2] at h; cases h
  rw [if_neg c2] at h ⊢
  have e : s.2 = true := by
    cases h' : s.2
    · exact absurd h' c2
    · rfl
  obtain ⟨t1, t2, t3⟩ := hT e
  refine ⟨s.1, t1, t3, fun a ha => ?_⟩
  have w1 := waitN_nonneg hx hw hb (Int.le_refl 0) z10 (Int.le_refl 0) z10
  obtain ⟨W, h1, h2, h3⟩ := waitD_each b x win hx hw (inst x s.1).toNat 0 0 0 z3 z3 w1 h a z3
  rw [Int.zero_add] at h2 h3
  exact ⟨W, h1, h2, h3⟩
def wkc (l : List S55) (cnt : Nat → Int) : Nat → Int
  | 0 => 0
  | t + 1 => wkc l cnt t + cnt t * bitsM (rd_T55 l (t : Int))
theorem wkc_one (l : List S55) (cnt : Nat → Int) (b : Nat) : ∀ N, wkc l (fun t => if t = b then cnt t + 1 else cnt t) N = wkc l cnt N + if b < N then bitsM (rd_T55 l (b : Int)) else 0
  | 0 => by rw [if_neg z3]; rfl
  | N + 1 => by
    simp only [wkc]
    rw [wkc_one l cnt b N]
    by_cases h1 : N = b
    · subst h1
      rw [if_pos rfl, if_neg z3, if_pos z3, Int.add_mul]; omega
    · rw [if_neg h1]
      by_cases h2 : b < N
      · rw [if_pos h2, if_pos z3]; omega
      · rw [if_neg h2, if_neg z3]; omega
theorem wkc_congr (l : List S55) (a b : Nat → Int) : ∀ N, (∀ t, t < N → a t = b t) → wkc l a N = wkc l b N
  | 0, _ => rfl
  | N + 1, h => by simp only [wkc]; rw [wkc_congr l a b N (fun t ht => h t z3), h N z3]
theorem wkc_zero (l : List S55) (cnt : Nat → Int) : ∀ N, (∀ t, t < N → cnt t = 0) → wkc l cnt N = 0
  | 0, _ => rfl
  | N + 1, h => by simp only [wkc]; rw [wkc_zero l cnt N (fun t ht => h t z3), h N z3]; omega
theorem wkc_bound (l : List S55) (hl : OkL l) (F : S55 → Int) (cnt : Nat → Int) (no q : Int) (i : Nat) (hu : ∀ t, t < l.length → (rd_T55 l (t : Int)).f0 = no → t = i) (hi : (rd_T55 l (i : Int)).f0 = no)
    (h1 : ∀ t, t < l.length → (rd_T55 l (t : Int)).f0 < no → cnt t ≤ F (rd_T55 l (t : Int))) (h2 : cnt i ≤ q) (h3 : ∀ t, t < l.length → no < (rd_T55 l (t : Int)).f0 → cnt t ≤ 0) :
    ∀ N, N ≤ l.length → wkc l cnt N ≤ sW (fun o => F o * bitsM o) l no N + if i < N then q * bitsM (rd_T55 l (i : Int)) else 0
  | 0, _ => by rw [if_neg z3]; exact Int.le_refl _
  | N + 1, hN => by
    have ih := wkc_bound l hl F cnt no q i hu hi h1 h2 h3 N z3
    have hb := (okM_pos (hl N z3)).2
    simp only [wkc, sW]
    rcases Int.lt_trichotomy (rd_T55 l (N : Int)).f0 no with h | h | h
    · have hne : i ≠ N := fun e => by subst e; omega
      have := Int.mul_le_mul_of_nonneg_right (h1 N z3 h) hb
      rw [if_pos h]
      by_cases h4 : i < N
      · rw [if_pos h4] at ih; rw [if_pos z3]; omega
      · rw [if_neg h4] at ih; rw [if_neg z3]; omega
    · have e := hu N z3 h
      subst e
      have := Int.mul_le_mul_of_nonneg_right h2 hb
      rw [if_neg z3] at ih
      rw [if_neg z3, if_pos z3]; omega
    · have hne : i ≠ N := fun e => by subst e; omega
      have := Int.mul_le_mul_of_nonneg_right (h3 N z3 h) hb
      rw [if_neg z3]
      by_cases h4 : i < N
      · rw [if_pos h4] at ih; rw [if_pos z3]; omega
      · rw [if_neg h4] at ih; rw [if_neg z3]; omega
theorem mL_ge (l : List S55) (no : Int) : ∀ n t : Nat, t < n → no < (rd_T55 l (t : Int)).f0 → bitsM (rd_T55 l (t : Int)) ≤ mL l no n
  | 0, t, h, _ => by omega
  | n + 1, t, h, hn => by
    simp only [mL]
    by_cases e : t = n
    · subst e; rw [if_pos hn]; omega
    · have := mL_ge l no n t z3 hn
      split <;> omega
theorem mL_nonneg (l : List S55) (no : Int) : ∀ n, 0 ≤ mL l no n
  | 0 => Int.le_refl _
  | n + 1 => by
    have := mL_nonneg l no n
    simp only [mL]
    split <;> omega
structure Sched (l : List S55) (la : List (List Int)) (T : Int) (n : Nat) (ix : Nat → Nat) (st : Nat → Int) (g : Nat → Nat → Nat) : Prop where
  zero : ∀ t, g 0 t = 0
  next : ∀ k, k < n → ∀ t, g (k + 1) t = if t = ix k then g k t + 1 else g k t
  ixl : ∀ k, k < n → ix k < l.length
  due : ∀ k, k < n → dD l la (ix k) (g k (ix k)) ≤ st k ∧ dD l la (ix k) (g k (ix k)) < T
  win : ∀ k, k < n → ∀ t, t < l.length → (rd_T55 l (t : Int)).f0 < (rd_T55 l (ix k : Int)).f0 → st k < dD l la t (g k t) ∨ T ≤ dD l la t (g k t)
  go : ∀ k, k < n → (∀ t, t < l.length → st k ≤ dD l la t (g k t) ∨ T ≤ dD l la t (g k t)) ∨ ∃ p, k = p + 1 ∧ st k = st p + bitsM (rd_T55 l (ix p : Int))
section
variable {l : List S55} {la : List (List Int)} {T : Int} {n : Nat} {ix : Nat → Nat} {st : Nat → Int} {g : Nat → Nat → Nat}
variable (H : Sched l la T n ix st g) (hl : OkL l) (hok : okFrom l la 0)
theorem dD_bounds (hl : OkL l) (hok : okFrom l la 0) (t : Nat) (ht : t < l.length) (j : Nat) : (j : Int) * (rd_T55 l (t : Int)).f2 ≤ dD l la t j ∧ dD l la t j ≤ (j : Int) * (rd_T55 l (t : Int)).f2 + (rd_T55 l (t : Int)).f3 := by
  obtain ⟨_, _, _, _, _, _, p3, _⟩ := okM_bounds (hl t ht)
  unfold dD dueN
  by_cases h : j < (rd_L1 la (t : Int)).length
  · rw [if_pos h]
    have := (hok t z3 ht).1 j z3 h
    omega
  · rw [if_neg h]; omega
theorem dD_step (hl : OkL l) (hok : okFrom l la 0) (t : Nat) (ht : t < l.length) (j : Nat) : dD l la t j < dD l la t (j + 1) := by
  obtain ⟨_, _, _, _, p1, _, p3, _⟩ := okM_bounds (hl t ht)
  by_cases h : j < (rd_L1 la (t : Int)).length
  · exact (hok t z3 ht).2 j z3 h
  · unfold dD dueN
    rw [if_neg h, if_neg z3]
    have : ((j + 1 : Nat) : Int) * (rd_T55 l (t : Int)).f2 = (j : Int) * (rd_T55 l (t : Int)).f2 + (rd_T55 l (t : Int)).f2 := by
      rw [show ((j + 1 : Nat) : Int) = (j : Int) + 1 by omega, Int.add_mul]; omega
    omega
theorem dD_mono (hl : OkL l) (hok : okFrom l la 0) (t : Nat) (ht : t < l.length) (i j : Nat) (h : i ≤ j) : dD l la t i ≤ dD l la t j := by
  induction j with
  | zero => obtain rfl : i = 0 := by omega
            exact Int.le_refl _
  | succ j ih =>
    by_cases e : i = j + 1
    · subst e; exact Int.le_refl _
    · have := ih z3
      have := dD_step hl hok t ht j
      omega
include H
theorem Sched.mono (t m r : Nat) (hm : m ≤ r) (hr : r ≤ n) : g m t ≤ g r t := by
  induction r with
  | zero => obtain rfl : m = 0 := by omega
            exact Nat.le_refl _
  | succ r ih =>
    by_cases e : m = r + 1
    · subst e; exact Nat.le_refl _
    · have := ih z3 z3
      rw [H.next r z3 t]
      split <;> omega
theorem Sched.sent (t m : Nat) : ∀ r, m ≤ r → r ≤ n → ∀ j, g m t ≤ j → j < g r t → ∃ r', m ≤ r' ∧ r' < r ∧ ix r' = t ∧ g r' t = j := by
  intro r
  induction r with
  | zero =>
    intro h1 h2 j h3 h4
    obtain rfl : m = 0 := by omega
    omega
  | succ r ih =>
    intro h1 h2 j h3 h4
    by_cases e : m = r + 1
    · subst e; omega
    by_cases h5 : j < g r t
    · obtain ⟨r', a, b, c, d⟩ := ih z3 z3 j h3 h5
      exact ⟨r', a, by omega, c, d⟩
    · rw [H.next r z3 t] at h4
      by_cases h6 : t = ix r
      · rw [if_pos h6] at h4
        exact ⟨r, by omega, by omega, h6.symm, by omega⟩
      · rw [if_neg h6] at h4; omega
theorem Sched.work (m : Nat) : ∀ r, m ≤ r → r < n → (∀ s, m ≤ s → s < r → st (s + 1) = st s + bitsM (rd_T55 l (ix s : Int))) → st r = st m + wkc l (fun t => (g r t : Int) - (g m t : Int)) l.length := by
  intro r
  induction r with
  | zero =>
    intro h1 h2 h3
    obtain rfl : m = 0 := by omega
    rw [wkc_zero l _ l.length (fun t _ => by omega)]; omega
  | succ r ih =>
    intro h1 h2 h3
    by_cases e : m = r + 1
    · subst e
      rw [wkc_zero l _ l.length (fun t _ => by omega)]; omega
    have h4 := ih z3 z3 (fun s a b => h3 s a z3)
    rw [h3 r z3 z3, h4]
    have h5 := wkc_one l (fun t => (g r t : Int) - (g m t : Int)) (ix r) l.length
    rw [if_pos (H.ixl r z3)] at h5
    rw [wkc_congr l (fun t => (g (r + 1) t : Int) - (g m t : Int)) (fun t => if t = ix r then (g r t : Int) - (g m t : Int) + 1 else (g r t : Int) - (g m t : Int)) l.length (fun t ht => by
      rw [H.next r z3 t]
      split <;> omega)]
    omega
def StartAt (l : List S55) (la : List (List Int)) (T : Int) (st : Nat → Int) (g : Nat → Nat → Nat) (no : Int) (m : Nat) (t0 : Int) : Prop :=
  (∀ t, t < l.length → (rd_T55 l (t : Int)).f0 ≤ no → t0 ≤ dD l la t (g m t) ∨ T ≤ dD l la t (g m t)) ∧ t0 ≤ st m ∧ st m ≤ t0 + mL l no l.length
def Goes (l : List S55) (la : List (List Int)) (T : Int) (ix : Nat → Nat) (st : Nat → Int) (g : Nat → Nat → Nat) (no : Int) (r : Nat) : Prop :=
  (rd_T55 l (ix (r - 1) : Int)).f0 ≤ no ∧ ∃ t, t < l.length ∧ (rd_T55 l (t : Int)).f0 ≤ no ∧ dD l la t (g r t) < st r ∧ dD l la t (g r t) < T
theorem Sched.start (hl : OkL l) (no : Int) : ∀ k, k < n → ∃ m t0, m ≤ k ∧ StartAt l la T st g no m t0 ∧ ∀ r, m < r → r ≤ k → Goes l la T ix st g no r := by
  (have hB := mL_nonneg l no l.length); intro k
  induction k with
  | zero =>
    intro hk
    refine ⟨0, st 0, Nat.le_refl _, ⟨fun t ht hno => ?_, Int.le_refl _, by omega⟩, fun r h1 h2 => by omega⟩
    rcases H.go 0 hk with h | ⟨p, h, _⟩
    · exact h t ht
    · omega
  | succ k ih =>
    intro hk
    by_cases ha : ∃ t, t < l.length ∧ (rd_T55 l (t : Int)).f0 ≤ no ∧ dD l la t (g (k + 1) t) < st (k + 1) ∧ dD l la t (g (k + 1) t) < T
    · by_cases hlow : no < (rd_T55 l (ix k : Int)).f0
      · obtain ⟨t1, ht1, hn1, hd1, hT1⟩ := ha
        have hst : st (k + 1) = st k + bitsM (rd_T55 l (ix k : Int)) := by
          rcases H.go (k + 1) hk with h | ⟨p, h, h2⟩
          · rcases h t1 ht1 with h | h <;> omega
          · obtain rfl : p = k := by omega
            exact h2
        have hC := mL_ge l no l.length (ix k) (H.ixl k z3) hlow
        have hC2 := bitsM_bounds (hl (ix k) (H.ixl k z3))
        refine ⟨k + 1, st k + 1, Nat.le_refl _, ⟨fun t ht hno => ?_, by omega, by omega⟩, fun r h1 h2 => by omega⟩
        have hne : t ≠ ix k := fun e => by subst e; omega
        rw [H.next k z3 t, if_neg hne]
        rcases H.win k z3 t ht z3 with h | h
        · exact .inl z3
        · exact .inr h
      · obtain ⟨m, t0, h1, h2, h3⟩ := ih z3
        refine ⟨m, t0, by omega, h2, fun r h4 h5 => ?_⟩
        by_cases e : r = k + 1
        · subst e
          exact ⟨by show (rd_T55 l (ix k : Int)).f0 ≤ no; omega, ha⟩
        · exact h3 r h4 z3
    · refine ⟨k + 1, st (k + 1), Nat.le_refl _, ⟨fun t ht hno => ?_, Int.le_refl _, by omega⟩, fun r h1 h2 => by omega⟩
      by_cases h : st (k + 1) ≤ dD l la t (g (k + 1) t)
      · exact .inl h
      · by_cases h2 : T ≤ dD l la t (g (k + 1) t)
        · exact .inr h2
        · exact absurd ⟨t, ht, hno, by omega, by omega⟩ ha
end
theorem countA (x : S55) (hp : 0 < x.f2) (j1 c t t0 d1 d2 : Int) (h1 : t0 ≤ d1) (h2 : d1 ≤ j1 * x.f2 + x.f3) (h3 : (j1 + c - 1) * x.f2 ≤ d2) (h4 : d2 < t0 + t) : c ≤ inst x t := by
  unfold inst
  apply Int.le_ediv_of_mul_le hp
  have e : (j1 + c - 1) * x.f2 = j1 * x.f2 + c * x.f2 - x.f2 := by grind
  omega
theorem countB (x : S55) (hp : 0 < x.f2) (j1 c t t0 d1 d2 : Int) (h1 : t0 ≤ d1) (h2 : d1 ≤ j1 * x.f2 + x.f3) (h3 : (j1 + c - 1) * x.f2 ≤ d2) (h4 : d2 ≤ t0 + t) : c ≤ instW x t := by
  have : c - 1 ≤ (t + x.f3) / x.f2 := by
    apply Int.le_ediv_of_mul_le hp
    have e : (j1 + c - 1) * x.f2 = j1 * x.f2 + (c - 1) * x.f2 := by grind
    omega
  unfold instW; omega
section
variable {l : List S55} {la : List (List Int)} {T : Int} {n : Nat} {ix : Nat → Nat} {st : Nat → Int} {g : Nat → Nat → Nat}
theorem Sched.never (H : Sched l la T n ix st g) (hl : OkL l) (hok : okFrom l la 0) (hu : ∀ a b : Nat, a < l.length → b < l.length → (rd_T55 l (a : Int)).f0 = (rd_T55 l (b : Int)).f0 → a = b) (k : Nat) (hk : k < n)
    (hd : (delayD (rd_T55 l (ix k : Int)) (winTo l (rd_T55 l (ix k : Int)).f0 l.length) (mL l (rd_T55 l (ix k : Int)).f0 l.length)).2 = true) :
    st k + bitsM (rd_T55 l (ix k : Int)) ≤ (g k (ix k) : Int) * (rd_T55 l (ix k : Int)).f2 + (delayD (rd_T55 l (ix k : Int)) (winTo l (rd_T55 l (ix k : Int)).f0 l.length) (mL l (rd_T55 l (ix k : Int)).f0 l.length)).1 := by
  (have hi := H.ixl k hk); (obtain ⟨i, ei⟩ : ∃ i, i = ix k := ⟨_, rfl⟩); rw [← ei] at hd hi ⊢; (obtain ⟨no, hno⟩ : ∃ no, no = (rd_T55 l (i : Int)).f0 := ⟨_, rfl⟩); rw [← hno] at hd ⊢; (have hB := mL_nonneg l no l.length); (have hx := hl i hi); (have hw := winTo_ok l no l.length hl l.length (Nat.le_refl _)); (obtain ⟨_, _, _, _, p1, _, p3, _⟩ := okM_bounds hx); (have hbx := bitsM_bounds hx); (obtain ⟨tS, s1, s2, s3⟩ := delayD_each _ _ _ hx hw hB hd); (generalize (delayD (rd_T55 l (i : Int)) (winTo l no l.length) (mL l no l.length)).1 = d at s3 ⊢); (obtain ⟨m, t0, hmk, ⟨S1, S2, S3⟩, hgo⟩ := H.start hl no k hk); (have hu' : ∀ t, t < l.length → (rd_T55 l (t : Int)).f0 = no → t = i := fun t ht e => hu t i ht hi (by rw [e, hno]))
  have hbb : ∀ s, m ≤ s → s < k → st (s + 1) = st s + bitsM (rd_T55 l (ix s : Int)) := fun s h1 h2 => by
    obtain ⟨_, t, ht, hn, hd1, hd2⟩ := hgo (s + 1) z3 z3
    rcases H.go (s + 1) z3 with h | ⟨p, h, h2⟩
    · rcases h t ht with h | h <;> omega
    · obtain rfl : p = s := by omega
      exact h2
  have hlow : ∀ t, t < l.length → no < (rd_T55 l (t : Int)).f0 → ∀ r, m ≤ r → r ≤ k → g r t = g m t := fun t ht hn r => by
    induction r with
    | zero => intro h1 h2; obtain rfl : m = 0 := by omega
              rfl
    | succ r ih =>
      intro h1 h2
      by_cases e : m = r + 1
      · subst e; rfl
      · have hr := (hgo (r + 1) z3 h2).1
        rw [H.next r z3 t, if_neg (fun e2 => by subst e2; simp only [Nat.add_sub_cancel] at hr; omega)]
        exact ih z3 z3
  have hfirst : ∀ t, t < l.length → (rd_T55 l (t : Int)).f0 ≤ no → ∀ j, g m t ≤ j → dD l la t j < T → t0 ≤ dD l la t (g m t) := fun t ht hn j hj hT => by
    have := dD_mono hl hok t ht (g m t) j hj
    rcases S1 t ht hn with h | h <;> omega
  (have hI : 1 ≤ inst (rd_T55 l (i : Int)) tS := inst_pos hx s1)
  have hsW : 0 ≤ sW (fun o => inst o tS * bitsM o) l no l.length := by
    have := sum_nonneg (fun o => inst o tS * bitsM o) (winTo l no l.length) (fun a ha => Int.mul_nonneg (by have := inst_pos (hw a ha) s1; omega) (okM_pos (hw a ha)).2) _ (Nat.le_refl _)
    rwa [sumI_win] at this
  have hS : tS = mL l no l.length + inst (rd_T55 l (i : Int)) tS * bitsM (rd_T55 l (i : Int)) + sW (fun o => inst o tS * bitsM o) l no l.length := by
    have := s2
    unfold busyN at this
    rw [sumI_win] at this
    omega
  (have hIC : 1 * bitsM (rd_T55 l (i : Int)) ≤ inst (rd_T55 l (i : Int)) tS * bitsM (rd_T55 l (i : Int)) := Int.mul_le_mul_of_nonneg_right hI z3)
  have hA : ∀ r, m ≤ r → r ≤ k → st r < t0 + tS := by
    intro r
    induction r using Nat.strongRecOn with
    | _ r ih =>
      intro h1 h2
      by_cases e : r = m
      · subst e; omega
      obtain ⟨_, t', ht', hn', hd', hT'⟩ := hgo r z3 h2
      have hwork := H.work m r h1 z3 (fun s a b => hbb s a z3)
      have hcnt : ∀ t, t < l.length → (rd_T55 l (t : Int)).f0 ≤ no → (g r t : Int) - (g m t : Int) ≤ inst (rd_T55 l (t : Int)) tS := fun t ht hn => by
        have hmono := H.mono t m r h1 z3
        by_cases hc : g m t = g r t
        · have := inst_pos (hl t ht) s1; omega
        · obtain ⟨r', a1, a2, a3, a4⟩ := H.sent t m r h1 z3 (g r t - 1) z3 z3
          have hdue := H.due r' z3
          rw [a3, a4] at hdue
          have hb1 := dD_bounds hl hok t ht (g m t)
          have hb2 := dD_bounds hl hok t ht (g r t - 1)
          refine countA _ (okM_pos (hl t ht)).1 (g m t : Int) _ tS t0 _ (hfirst t ht hn (g r t - 1) z3 hdue.2) hb1.2 (d2 := dD l la t (g r t - 1)) ?_ ?_
          · rw [show (g m t : Int) + ((g r t : Int) - (g m t : Int)) - 1 = ((g r t - 1 : Nat) : Int) by omega]; exact hb2.1
          · have := ih r' a2 a1 z3; omega
      by_cases hlt : st r < t0 + tS
      · exact hlt
      exfalso
      have hle : st r ≤ t0 + tS := by
        have hb := wkc_bound l hl (fun o => inst o tS) (fun t => (g r t : Int) - (g m t : Int)) no (inst (rd_T55 l (i : Int)) tS) i hu' hno.symm (fun t ht hn => hcnt t ht z3) (hcnt i hi z3) (fun t ht hn => by rw [hlow t ht hn r h1 h2]; omega) l.length (Nat.le_refl _)
        rw [if_pos hi] at hb
        omega
      have hcnt' : (g r t' : Int) - (g m t' : Int) + 1 ≤ inst (rd_T55 l (t' : Int)) tS := by
        have hmono := H.mono t' m r h1 z3
        have hb1 := dD_bounds hl hok t' ht' (g m t')
        have hb2 := dD_bounds hl hok t' ht' (g r t')
        refine countA _ (okM_pos (hl t' ht')).1 (g m t' : Int) _ tS t0 _ (hfirst t' ht' hn' (g r t') hmono hT') hb1.2 (d2 := dD l la t' (g r t')) ?_ z3
        rw [show (g m t' : Int) + ((g r t' : Int) - (g m t' : Int) + 1) - 1 = ((g r t' : Nat) : Int) by omega]; exact hb2.1
      have hone := wkc_one l (fun t => (g r t : Int) - (g m t : Int)) t' l.length
      rw [if_pos ht'] at hone
      have hb := wkc_bound l hl (fun o => inst o tS) (fun t => if t = t' then (g r t : Int) - (g m t : Int) + 1 else (g r t : Int) - (g m t : Int)) no (inst (rd_T55 l (i : Int)) tS) i hu' hno.symm
        (fun t ht hn => by
          split
          · rename_i e2; subst e2; exact hcnt'
          · exact hcnt t ht z3)
        (by
          split
          · rename_i e2; subst e2; exact hcnt'
          · exact hcnt i hi z3)
        (fun t ht hn => by
          rw [if_neg (fun e2 => by subst e2; omega), hlow t ht hn r h1 h2]; omega) l.length (Nat.le_refl _)
      rw [if_pos hi, hone] at hb
      have hCt := bitsM_bounds (hl t' ht')
      omega
  (have hmono := H.mono i m k hmk z3); (have hduek := H.due k hk); rw [← ei] at hduek; (have hb1 := dD_bounds hl hok i hi (g m i)); (have hb2 := dD_bounds hl hok i hi (g k i)); (have ht0 := hfirst i hi z3 (g k i) hmono hduek.2)
  have hq : (g k i : Int) - (g m i : Int) + 1 ≤ inst (rd_T55 l (i : Int)) tS := by
    refine countA _ (okM_pos hx).1 (g m i : Int) _ tS t0 _ ht0 hb1.2 (d2 := dD l la i (g k i)) ?_ ?_
    · rw [show (g m i : Int) + ((g k i : Int) - (g m i : Int) + 1) - 1 = ((g k i : Nat) : Int) by omega]; exact hb2.1
    · have := hA k hmk (Nat.le_refl _); omega
  (obtain ⟨W, w1, w2, w3⟩ := s3 (g k i - g m i) z3); (have eq : ((g k i - g m i : Nat) : Int) = (g k i : Int) - (g m i : Int) := by omega); rw [eq] at w2 w3
  have hWs : 0 ≤ sW (fun o => instW o W * bitsM o) l no l.length := by
    have := sum_nonneg (fun o => instW o W * bitsM o) (winTo l no l.length) (fun a ha => Int.mul_nonneg (by
      obtain ⟨_, _, _, _, c1, _, c3, _⟩ := okM_bounds (hw a ha)
      have := Int.ediv_nonneg (show 0 ≤ W + (rd_T55 (winTo l no l.length) (a : Int)).f3 by omega) (show 0 ≤ (rd_T55 (winTo l no l.length) (a : Int)).f2 by omega)
      unfold instW; omega) (okM_pos (hw a ha)).2) _ (Nat.le_refl _)
    rwa [sumI_win] at this
  have hWe : W = mL l no l.length + ((g k i : Int) - (g m i : Int)) * bitsM (rd_T55 l (i : Int)) + sW (fun o => instW o W * bitsM o) l no l.length := by
    have := w2
    unfold waitN at this
    rw [sumI_win] at this
    omega
  (have hqC : 0 ≤ ((g k i : Int) - (g m i : Int)) * bitsM (rd_T55 l (i : Int)) := Int.mul_nonneg z3 z3)
  have hBd : ∀ r, m ≤ r → r ≤ k → st r ≤ t0 + W := by
    intro r
    induction r using Nat.strongRecOn with
    | _ r ih =>
      intro h1 h2
      by_cases e : r = m
      · subst e; omega
      have hwork := H.work m r h1 z3 (fun s a b => hbb s a z3)
      have hcnt : ∀ t, t < l.length → (rd_T55 l (t : Int)).f0 < no → (g r t : Int) - (g m t : Int) ≤ instW (rd_T55 l (t : Int)) W := fun t ht hn => by
        have hmono := H.mono t m r h1 z3
        by_cases hc : g m t = g r t
        · obtain ⟨_, _, _, _, c1, _, c3, _⟩ := okM_bounds (hl t ht)
          have := Int.ediv_nonneg (show 0 ≤ W + (rd_T55 l (t : Int)).f3 by omega) (show 0 ≤ (rd_T55 l (t : Int)).f2 by omega)
          unfold instW; omega
        · obtain ⟨r', a1, a2, a3, a4⟩ := H.sent t m r h1 z3 (g r t - 1) z3 z3
          have hdue := H.due r' z3
          rw [a3, a4] at hdue
          have hb1 := dD_bounds hl hok t ht (g m t)
          have hb2 := dD_bounds hl hok t ht (g r t - 1)
          refine countB _ (okM_pos (hl t ht)).1 (g m t : Int) _ W t0 _ (hfirst t ht z3 (g r t - 1) z3 hdue.2) hb1.2 (d2 := dD l la t (g r t - 1)) ?_ ?_
          · rw [show (g m t : Int) + ((g r t : Int) - (g m t : Int)) - 1 = ((g r t - 1 : Nat) : Int) by omega]; exact hb2.1
          · have := ih r' a2 a1 z3; omega
      have hb := wkc_bound l hl (fun o => instW o W) (fun t => (g r t : Int) - (g m t : Int)) no ((g k i : Int) - (g m i : Int)) i hu' hno.symm hcnt (by have := H.mono i r k h2 z3; omega) (fun t ht hn => by rw [hlow t ht hn r h1 h2]; omega) l.length (Nat.le_refl _)
      rw [if_pos hi] at hb
      omega
  (have hend := hBd k hmk (Nat.le_refl _)); (have e3 : ((g k i : Int) - (g m i : Int)) * (rd_T55 l (i : Int)).f2 = (g k i : Int) * (rd_T55 l (i : Int)).f2 - (g m i : Int) * (rd_T55 l (i : Int)).f2 := by grind); omega
end
end Go.Proofs.YtbanemecfobonaaDoor.B
