/- Written by a program (lite.py) from my texts. -/
import Derived.Test.YtbanemecfobonaaDoorU11q
import Derived.Test.YtbanemecfobonaaDoorBM4q
namespace Go.Proofs.YtbanemecfobonaaDoor.B
open Go.RowKit Go.Proofs.YtbanemecfobonaaDoorW.PrintWords Go.Proofs.YtbanemecfobonaaDoorW.PrintLast Go.Proofs.YtbanemecfobonaaDoorW.PrintMore
set_option linter.unusedVariables false
set_option linter.unusedSimpArgs false
theorem leastN (P : Nat → Prop) (n : Nat) : P n → ∃ m, P m ∧ ∀ k, k < m → ¬ P k := by
  induction n using Nat.strongRecOn with
  | ind n ih =>
    intro hn
    by_cases h : ∃ k, k < n ∧ P k
    · obtain ⟨k, hk, hp⟩ := h
      exact ih k hk hp
    · exact ⟨n, hn, fun k hk hp => h ⟨k, hk, hp⟩⟩
def sumTo (g : Nat → Nat) : Nat → Nat
  | 0 => 0
  | n + 1 => sumTo g n + g n
theorem sumTo_le (g c : Nat → Nat) : ∀ n, (∀ i, i < n → g i ≤ c i) → sumTo g n ≤ sumTo c n
  | 0, _ => Nat.le_refl _
  | n + 1, h => by
    have := sumTo_le g c n (fun i hi => h i (by omega))
    have := h n (by omega)
    simp only [sumTo]; omega
theorem sumTo_same (g c : Nat → Nat) : ∀ n, (∀ i, i < n → g i = c i) → sumTo g n = sumTo c n
  | 0, _ => rfl
  | n + 1, h => by simp only [sumTo]; rw [sumTo_same g c n (fun i hi => h i (by omega)), h n (by omega)]
theorem sumTo_ge (g : Nat → Nat) : ∀ n i, i < n → g i ≤ sumTo g n
  | 0, i, h => by omega
  | n + 1, i, h => by
    by_cases hi : i = n
    · subst hi; simp only [sumTo]; omega
    · have := sumTo_ge g n i (by omega); simp only [sumTo]; omega
theorem sumTo_mono (g : Nat → Nat) (n m : Nat) (h : n ≤ m) : sumTo g n ≤ sumTo g m := by
  induction m with
  | zero => obtain rfl : n = 0 := by omega
            exact Nat.le_refl _
  | succ m ih =>
    by_cases hn : n = m + 1
    · subst hn; exact Nat.le_refl _
    · have := ih (by omega); simp only [sumTo]; omega
def upd (g : Nat → Nat) (b : Nat) : Nat → Nat := fun j => if j = b then g j + 1 else g j
theorem sumTo_upd (g : Nat → Nat) (b : Nat) : ∀ n, sumTo (upd g b) n = if b < n then sumTo g n + 1 else sumTo g n
  | 0 => by rw [if_neg (by omega)]; rfl
  | n + 1 => by
    simp only [sumTo]
    rw [sumTo_upd g b n]
    by_cases h1 : b < n
    · rw [if_pos h1, if_pos (by omega)]; unfold upd; rw [if_neg (by omega)]; omega
    · by_cases h2 : b = n
      · subst h2; rw [if_neg (by omega), if_pos (by omega)]; unfold upd; rw [if_pos rfl]; omega
      · rw [if_neg h1, if_neg (by omega)]; unfold upd; rw [if_neg (by omega)]
theorem rd_set (x : List Int) (b : Nat) (v : Int) (hb : b < x.length) (i : Nat) : rd (x.set b v) (i : Int) = if i = b then v else rd x (i : Int) := by
  show (x.set b v).getD i 0 = if i = b then v else x.getD i 0
  rw [List.getD_eq_getElem?_getD, List.getElem?_set]
  by_cases h : i = b
  · subst h; rw [if_pos rfl, if_pos rfl, if_pos hb]; rfl
  · rw [if_neg (fun e => h e.symm), if_neg h, List.getD_eq_getElem?_getD]
def NX (next : List Int) (g : Nat → Nat) (n : Nat) : Prop := next.length = n ∧ ∀ i, i < n → rd next (i : Int) = ((g i : Nat) : Int)
theorem NX.upd {next : List Int} {g : Nat → Nat} {n : Nat} (h : NX next g n) (b : Nat) (hb : b < n) (hg : g b ≤ 1000000) : NX (next.set (b : Int).toNat (wrap64 (rd next (b : Int) + 1))) (upd g b) n := by
  have e : (b : Int).toNat = b := by omega
  refine ⟨by rw [List.length_set]; exact h.1, fun i hi => ?_⟩
  rw [e, rd_set _ _ _ (by rw [h.1]; exact hb)]
  unfold B.upd
  by_cases hi2 : i = b
  · subst hi2; rw [if_pos rfl, if_pos rfl, h.2 i hi, nNx _ (by omega)]
  · rw [if_neg hi2, if_neg hi2, h.2 i hi]
section
variable (l : List S55) (la : List (List Int)) (T : Int)
def dD (i j : Nat) : Int := dueN (rd_T55 l (i : Int)).f2 (rd_L1 la (i : Int)) j
def scanF (g : Nat → Nat) (now : Int) : Nat → Nat → Int → Int → Int × Int
  | 0, i, b, f => (b, f)
  | q + 1, i, b, f => if T ≤ dD l la i (g i) then scanF g now q (i + 1) b f else
      scanF g now q (i + 1) (if dD l la i (g i) ≤ now ∧ (b < 0 ∨ (rd_T55 l (i : Int)).f0 < (rd_T55 l b).f0) then (i : Int) else b) (if f < 0 ∨ dD l la i (g i) < f then dD l la i (g i) else f)
def scanInv (g : Nat → Nat) (now : Int) (i : Nat) (b f : Int) : Prop :=
  (f = -1 ∧ (∀ t, t < i → T ≤ dD l la t (g t)) ∨ 0 ≤ f ∧ ∃ t, t < i ∧ dD l la t (g t) < T ∧ dD l la t (g t) = f) ∧
  (b = -1 ∧ (∀ t, t < i → dD l la t (g t) < T → now < dD l la t (g t)) ∨ ∃ bn : Nat, b = (bn : Int) ∧ bn < i ∧ dD l la bn (g bn) < T)
theorem scan_inv (g : Nat → Nat) (now : Int) (hD : ∀ t, t < l.length → 0 ≤ dD l la t (g t)) : ∀ q i b f, i + q = l.length → scanInv l la T g now i b f → scanInv l la T g now l.length (scanF l la T g now q i b f).1 (scanF l la T g now q i b f).2
  | 0, i, b, f, hq, h => by
    obtain rfl : i = l.length := by omega
    exact h
  | q + 1, i, b, f, hq, h => by
    obtain ⟨h1, h2⟩ := h
    have hd := hD i (by omega)
    rw [scanF]
    by_cases ht : T ≤ dD l la i (g i)
    · rw [if_pos ht]
      refine scan_inv g now hD q (i + 1) b f (by omega) ⟨?_, ?_⟩
      · rcases h1 with ⟨e, h⟩ | ⟨e, t, h3, h4⟩
        · refine .inl ⟨e, fun t h5 => ?_⟩
          by_cases h6 : t = i
          · subst h6; exact ht
          · exact h t (by omega)
        · exact .inr ⟨e, t, by omega, h4⟩
      · rcases h2 with ⟨e, h⟩ | ⟨bn, e, h3, h4⟩
        · refine .inl ⟨e, fun t h5 h7 => ?_⟩
          by_cases h6 : t = i
          · subst h6; omega
          · exact h t (by omega) h7
        · exact .inr ⟨bn, e, by omega, h4⟩
    · rw [if_neg ht]
      refine scan_inv g now hD q (i + 1) _ _ (by omega) ⟨?_, ?_⟩
      · by_cases hf : f < 0 ∨ dD l la i (g i) < f
        · rw [if_pos hf]; exact .inr ⟨hd, i, by omega, by omega, rfl⟩
        · rw [if_neg hf]
          rcases h1 with ⟨e, h⟩ | ⟨e, t, h3, h4⟩
          · omega
          · exact .inr ⟨e, t, by omega, h4⟩
      · by_cases hb : dD l la i (g i) ≤ now ∧ (b < 0 ∨ (rd_T55 l (i : Int)).f0 < (rd_T55 l b).f0)
        · rw [if_pos hb]; exact .inr ⟨i, rfl, by omega, by omega⟩
        · rw [if_neg hb]
          rcases h2 with ⟨e, h⟩ | ⟨bn, e, h3, h4⟩
          · refine .inl ⟨e, fun t h5 h7 => ?_⟩
            by_cases h6 : t = i
            · subst h6
              by_cases h8 : dD l la t (g t) ≤ now
              · exact absurd ⟨h8, .inl (by omega)⟩ hb
              · omega
            · exact h t (by omega) h7
          · exact .inr ⟨bn, e, by omega, h4⟩
abbrev scanAll (g : Nat → Nat) (now : Int) : Int × Int := scanF l la T g now l.length 0 (-1) (-1)
theorem scan_all (g : Nat → Nat) (now : Int) (hD : ∀ t, t < l.length → 0 ≤ dD l la t (g t)) : scanInv l la T g now l.length (scanAll l la T g now).1 (scanAll l la T g now).2 :=
  scan_inv l la T g now hD l.length 0 (-1) (-1) (by omega) ⟨.inl ⟨rfl, fun t h => by omega⟩, .inl ⟨rfl, fun t h => by omega⟩⟩
variable (hl8 : l.length ≤ 8) (hM : ∀ i, i < l.length → okM (rd_T55 l (i : Int)) = true) (hla : la.length = l.length) (hok : okFrom l la 0)
include hl8 hM hla hok
omit hl8 hla in
theorem at_D (i : Nat) (hi : i < l.length) (j : Nat) (hj : j ≤ 100000) : bus_at.f (rd_T55 l (i : Int)).f0 (rd_T55 l (i : Int)).f1 (rd_T55 l (i : Int)).f2 (rd_T55 l (i : Int)).f3 (rd_L1 la (i : Int)) (j : Int) = some (dD l la i j) := by
  obtain ⟨_, _, _, _, p1, p2, _, d2⟩ := (okM_iff _).1 (hM i hi)
  exact at_eq _ _ _ _ _ j hj p1 p2 (fun h => by have := (hok i (by omega) hi).1 j (by omega) h; omega)
omit hl8 hla in
theorem D_nonneg (i : Nat) (hi : i < l.length) (j : Nat) : 0 ≤ dD l la i j := by
  obtain ⟨_, _, _, _, p1, p2, _, d2⟩ := (okM_iff _).1 (hM i hi)
  have hm : 0 ≤ (j : Int) * (rd_T55 l (i : Int)).f2 := Int.mul_nonneg (by omega) (by omega)
  unfold dD dueN
  by_cases h : j < (rd_L1 la (i : Int)).length
  · rw [if_pos h]; have := (hok i (by omega) hi).1 j (by omega) h; omega
  · rw [if_neg h]; exact hm
omit hl8 hla hok in
theorem counts : ∃ c : Nat → Nat, ∀ i, i < l.length → T ≤ dD l la i (c i) ∧ ∀ j, j < c i → dD l la i j < T := by
  have each : ∀ i, ∃ c, i < l.length → T ≤ dD l la i c ∧ ∀ j, j < c → dD l la i j < T := fun i => by
    by_cases hi : i < l.length
    · obtain ⟨_, _, _, _, p1, p2, _, d2⟩ := (okM_iff _).1 (hM i hi)
      have h0 : T ≤ dD l la i ((rd_L1 la (i : Int)).length + T.toNat) := by
        unfold dD dueN
        rw [if_neg (by omega)]
        have h1 : (((rd_L1 la (i : Int)).length + T.toNat : Nat) : Int) * 1 ≤ (((rd_L1 la (i : Int)).length + T.toNat : Nat) : Int) * (rd_T55 l (i : Int)).f2 := Int.mul_le_mul_of_nonneg_left p1 (by omega)
        omega
      obtain ⟨m, h1, h2⟩ := leastN (fun j => T ≤ dD l la i j) _ h0
      exact ⟨m, fun _ => ⟨h1, fun j hj => by have := h2 j hj; omega⟩⟩
    · exact ⟨0, fun h => absurd h hi⟩
  obtain ⟨c, hc⟩ := Classical.axiomOfChoice each
  exact ⟨c, hc⟩
omit hok hM in
theorem send_scan (g : Nat → Nat) (next : List Int) (hn : NX next g l.length) (all now : Int) (out : List S74) (r : Option SRes)
    (hat : ∀ i, i < l.length → bus_at.f (rd_T55 l (i : Int)).f0 (rd_T55 l (i : Int)).f1 (rd_T55 l (i : Int)).f2 (rd_T55 l (i : Int)).f3 (rd_L1 la (i : Int)) ((g i : Nat) : Int) = some (dD l la i (g i))) :
    ∀ (q i : Nat) (b f : Int), i + q = l.length → -1 ≤ b → b < l.length → EvS (fun k => bus_Send.l6 k l la T next all out now (scanF l la T g now q i b f).1 (scanF l la T g now q i b f).2 l (l.length : Int) (l.length : Int)) r →
    EvS (fun k => bus_Send.l6 k l la T next all out now b f l (l.length : Int) (i : Int)) r
  | 0, i, b, f, hq, hb0, hb1, h => by
    obtain rfl : i = l.length := by omega
    exact h
  | q + 1, i, b, f, hq, hb0, hb1, h => by
    have hnl := hn.1
    rw [scanF] at h
    by_cases ht : T ≤ dD l la i (g i)
    · rw [if_pos ht] at h
      refine (send_scan g next hn all now out r hat q (i + 1) b f (by omega) hb0 hb1 h).succ 0 fun k _ => ?_
      rw [bus_Send.l6, if_pos (by omega), if_pos (by omega), if_pos (by omega), if_pos (by omega), if_pos (by omega), hn.2 i (by omega), hat i (by omega), Option.bind_some, if_pos ht, nNx i (by omega)]
    · rw [if_neg ht] at h
      have ih := send_scan g next hn all now out r hat q (i + 1) _ _ (by omega) (by split <;> omega) (by split <;> omega) h
      clear h
      refine EvS.succ (g := fun k => bus_Send.j8 k l la T next all out now b f (i : Int) (dD l la i (g i)) l (l.length : Int) (i : Int) (decide (dD l la i (g i) ≤ now ∧ (b < 0 ∨ (rd_T55 l (i : Int)).f0 < (rd_T55 l b).f0)))) (ih.succ 0 fun k _ => ?_) 0 fun k _ => ?_
      · rw [bus_Send.j8, nNx i (by omega)]
        by_cases hb : dD l la i (g i) ≤ now ∧ (b < 0 ∨ (rd_T55 l (i : Int)).f0 < (rd_T55 l b).f0)
        · rw [decide_eq_true hb, if_pos rfl, if_pos hb]
          by_cases h1 : f < 0
          · rw [if_pos h1, if_pos (.inl h1)]
          · rw [if_neg h1]
            by_cases h2 : dD l la i (g i) < f
            · rw [if_pos h2, if_pos (.inr h2)]
            · rw [if_neg h2, if_neg (by omega)]
        · rw [decide_eq_false hb, if_neg (by simp), if_neg hb]
          by_cases h1 : f < 0
          · rw [if_pos h1, if_pos (.inl h1)]
          · rw [if_neg h1]
            by_cases h2 : dD l la i (g i) < f
            · rw [if_pos h2, if_pos (.inr h2)]
            · rw [if_neg h2, if_neg (by omega)]
      · rw [bus_Send.l6, if_pos (by omega), if_pos (by omega), if_pos (by omega), if_pos (by omega), if_pos (by omega), hn.2 i (by omega), hat i (by omega), Option.bind_some, if_neg ht]
        by_cases c1 : dD l la i (g i) ≤ now
        · rw [if_pos c1]
          by_cases c2 : b < 0
          · rw [if_pos c2, decide_eq_true (⟨c1, .inl c2⟩ : _ ∧ _)]
          · rw [if_neg c2, if_pos (by omega), if_pos (by omega)]
            congr 1
            by_cases c3 : (rd_T55 l (i : Int)).f0 < (rd_T55 l b).f0
            · rw [decide_eq_true c3, decide_eq_true (⟨c1, .inr c3⟩ : _ ∧ _)]
            · rw [decide_eq_false c3, decide_eq_false (fun h => by rcases h.2 with h | h <;> omega)]
        · rw [if_neg c1, decide_eq_false (fun h => c1 h.1)]
omit hok hM in
theorem ref_scan (g : Nat → Nat) (next : List Int) (hn : NX next g l.length) (now : Int) (out : List S74) (r : Option SRes)
    (hat : ∀ i, i < l.length → bus_at.f (rd_T55 l (i : Int)).f0 (rd_T55 l (i : Int)).f1 (rd_T55 l (i : Int)).f2 (rd_T55 l (i : Int)).f3 (rd_L1 la (i : Int)) ((g i : Nat) : Int) = some (dD l la i (g i))) :
    ∀ (q i : Nat) (b f : Int), i + q = l.length → -1 ≤ b → b < l.length → EvS (fun k => neonwrightref08_Send.l1 k l la T next out now (scanF l la T g now q i b f).1 (scanF l la T g now q i b f).2 (l.length : Int)) r →
    EvS (fun k => neonwrightref08_Send.l1 k l la T next out now b f (i : Int)) r
  | 0, i, b, f, hq, hb0, hb1, h => by
    obtain rfl : i = l.length := by omega
    exact h
  | q + 1, i, b, f, hq, hb0, hb1, h => by
    have hnl := hn.1
    rw [scanF] at h
    by_cases ht : T ≤ dD l la i (g i)
    · rw [if_pos ht] at h
      refine (ref_scan g next hn now out r hat q (i + 1) b f (by omega) hb0 hb1 h).succ 0 fun k _ => ?_
      rw [neonwrightref08_Send.l1, if_pos (by omega), if_pos (by omega), if_pos (by omega), if_pos (by omega), hn.2 i (by omega), due_is_at, hat i (by omega), Option.bind_some, if_pos ht, nNx i (by omega)]
    · rw [if_neg ht] at h
      have ih := ref_scan g next hn now out r hat q (i + 1) _ _ (by omega) (by split <;> omega) (by split <;> omega) h
      clear h
      refine EvS.succ (g := fun k => neonwrightref08_Send.j2 k l la T next out now b f (i : Int) (dD l la i (g i)) (decide (f < 0 ∨ dD l la i (g i) < f))) (ih.succ 0 fun k _ => ?_) 0 fun k _ => ?_
      · rw [neonwrightref08_Send.j2, nNx i (by omega)]
        by_cases hf : f < 0 ∨ dD l la i (g i) < f
        · rw [decide_eq_true hf, if_pos rfl, if_pos hf]
          by_cases c1 : dD l la i (g i) ≤ now
          · rw [if_pos c1]
            by_cases c2 : b < 0
            · rw [if_pos c2, if_pos (⟨c1, .inl c2⟩ : _ ∧ _)]
            · rw [if_neg c2, if_pos (by omega), if_pos (by omega), if_pos (by omega), if_pos (by omega)]
              by_cases c3 : (rd_T55 l (i : Int)).f0 < (rd_T55 l b).f0
              · rw [if_pos c3, if_pos (⟨c1, .inr c3⟩ : _ ∧ _)]
              · rw [if_neg c3, if_neg (fun h => by rcases h.2 with h | h <;> omega)]
          · rw [if_neg c1, if_neg (fun h => c1 h.1)]
        · rw [decide_eq_false hf, if_neg (by simp), if_neg hf]
          by_cases c1 : dD l la i (g i) ≤ now
          · rw [if_pos c1]
            by_cases c2 : b < 0
            · rw [if_pos c2, if_pos (⟨c1, .inl c2⟩ : _ ∧ _)]
            · rw [if_neg c2, if_pos (by omega), if_pos (by omega), if_pos (by omega), if_pos (by omega)]
              by_cases c3 : (rd_T55 l (i : Int)).f0 < (rd_T55 l b).f0
              · rw [if_pos c3, if_pos (⟨c1, .inr c3⟩ : _ ∧ _)]
              · rw [if_neg c3, if_neg (fun h => by rcases h.2 with h | h <;> omega)]
          · rw [if_neg c1, if_neg (fun h => c1 h.1)]
      · rw [neonwrightref08_Send.l1, if_pos (by omega), if_pos (by omega), if_pos (by omega), if_pos (by omega), hn.2 i (by omega), due_is_at, hat i (by omega), Option.bind_some, if_neg ht]
        by_cases c1 : f < 0
        · rw [if_pos c1, decide_eq_true (.inl c1 : _ ∨ _)]
        · rw [if_neg c1]
          congr 1
          by_cases c2 : dD l la i (g i) < f
          · rw [decide_eq_true c2, decide_eq_true (.inr c2 : _ ∨ _)]
          · rw [decide_eq_false c2, decide_eq_false (by omega)]
def longV (x : Int) : Int := wrap64 ((wrap64 (47 + (wrap64 (8 * x)))) + (wrap64 (Int.tdiv (wrap64 (33 + (wrap64 (8 * x)))) 4)))
variable (c : Nat → Nat) (hc : ∀ i, i < l.length → T ≤ dD l la i (c i) ∧ ∀ j, j < c i → dD l la i j < T)
include hc
def Both (next : List Int) (out : List S74) (now : Int) : Prop :=
  ∃ r : SRes, EvS (fun k => neonwrightref08_Send.l0 k l la T next out now) (some r) ∧ (sumTo c l.length ≤ 20000 → EvS (fun k => bus_Send.l5 k l la T next ((sumTo c l.length : Nat) : Int) out now) (some r)) ∧ (20000 < sumTo c l.length → r = ([], 8)) ∧ r.1.length ≤ 20000
theorem send_step (g : Nat → Nat) (next : List Int) (hn : NX next g l.length) (hg : ∀ i, i < l.length → g i ≤ c i) (out : List S74) (hout : out.length = sumTo g l.length) (h20 : out.length ≤ 20000) (now : Int)
    (hb : 0 ≤ (scanAll l la T g now).1)
    (ih : ∀ g' next' out' now', NX next' g' l.length → (∀ i, i < l.length → g' i ≤ c i) → out'.length = sumTo g' l.length → out'.length ≤ 20000 → sumTo g' l.length = sumTo g l.length + 1 → Both l la T c next' out' now') :
    Both l la T c next out now := by
  (have hsm : ∀ i, i < l.length → g i ≤ 20000 := fun i hi => by have := sumTo_ge g l.length i hi; omega); (have hat : ∀ i, i < l.length → bus_at.f (rd_T55 l (i : Int)).f0 (rd_T55 l (i : Int)).f1 (rd_T55 l (i : Int)).f2 (rd_T55 l (i : Int)).f3 (rd_L1 la (i : Int)) ((g i : Nat) : Int) = some (dD l la i (g i)) := fun i hi => at_D l la hM hok i hi (g i) (by have := hsm i hi; omega)); (obtain ⟨v1, v2⟩ := scan_all l la T g now (fun t ht => D_nonneg l la hM hok t ht (g t))); (have hS := send_scan l la T hl8 hla g next hn ((sumTo c l.length : Nat) : Int) now out); (have hR := ref_scan l la T hl8 hla g next hn now out); have hnl := hn.1; (rcases v2 with ⟨e, _⟩ | ⟨bn, e, hbn, hbT⟩)
  · omega
  have hgb : g bn < c bn := by
    rcases Nat.lt_or_ge (g bn) (c bn) with h | h
    · exact h
    · have : g bn = c bn := by have := hg bn hbn; omega
      have h2 := (hc bn hbn).1
      have h3 : g bn = c bn := by omega
      rw [h3] at hbT
      omega
  have hf : 0 ≤ (scanAll l la T g now).2 := by
    rcases v1 with ⟨e1, h⟩ | ⟨e1, _⟩
    · have := h bn hbn; omega
    · exact e1
  have hslt : sumTo g l.length < sumTo c l.length := by
    have h1 : sumTo (upd g bn) l.length ≤ sumTo c l.length := sumTo_le _ _ _ (fun i hi => by
      unfold upd
      by_cases h : i = bn
      · subst h; rw [if_pos rfl]; omega
      · rw [if_neg h]; exact hg i hi)
    rw [sumTo_upd, if_pos hbn] at h1
    omega
  by_cases hfull : out.length = 20000
  · (refine ⟨([], 8), ?_, fun h => by omega, fun _ => rfl, by simp⟩); (refine (hR (some ([], 8)) hat l.length 0 (-1) (-1) (by omega) (by omega) (by omega) ?_).succ 0 fun k _ => ?_); rotate_left
    · rw [neonwrightref08_Send.l0]; rfl
    (refine EvS.now 0 fun k _ => ?_); rw [neonwrightref08_Send.l1, if_neg (by omega), if_neg (by show ¬ (scanAll l la T g now).2 < 0; omega), if_neg (by show ¬ (scanAll l la T g now).1 < 0; omega), if_pos (by omega)]
  (have hn2 := hn.upd bn hbn (by have := hsm bn hbn; omega))
  have hg2 : ∀ i, i < l.length → upd g bn i ≤ c i := fun i hi => by
    unfold upd
    by_cases h : i = bn
    · subst h; rw [if_pos rfl]; omega
    · rw [if_neg h]; exact hg i hi
  (have hs2 : sumTo (upd g bn) l.length = sumTo g l.length + 1 := by rw [sumTo_upd, if_pos hbn])
  obtain ⟨r, r1, r2, r3, r4⟩ := ih (upd g bn) (next.set (bn : Int).toNat (wrap64 (rd next (bn : Int) + 1))) (out ++ [(⟨(rd_T55 l (bn : Int)).f0, dD l la bn (g bn), wrap64 (now + longV (rd_T55 l (bn : Int)).f1)⟩ : S74)]) (wrap64 (now + longV (rd_T55 l (bn : Int)).f1)) hn2 hg2
    (by rw [List.length_append, hs2, hout]; rfl) (by rw [List.length_append]; show out.length + 1 ≤ 20000; omega) hs2
  (have e' : (scanF l la T g now l.length 0 (-1) (-1)).1 = (bn : Int) := e); (have hf' : ¬ (scanF l la T g now l.length 0 (-1) (-1)).2 < 0 := by show ¬ (scanAll l la T g now).2 < 0; omega); (have hL1 : neonwrightref08_longest.f (rd_T55 l (bn : Int)).f1 = some (longV (rd_T55 l (bn : Int)).f1) := rfl); (have hL2 : bus_bits.f (rd_T55 l (bn : Int)).f0 (rd_T55 l (bn : Int)).f1 (rd_T55 l (bn : Int)).f2 (rd_T55 l (bn : Int)).f3 = some (longV (rd_T55 l (bn : Int)).f1) := rfl); (refine ⟨r, ?_, fun hle => ?_, r3, r4⟩); rotate_left
  · (refine (hS (some r) hat l.length 0 (-1) (-1) (by omega) (by omega) (by omega) ?_).succ 0 fun k _ => ?_); rotate_left
    · rw [bus_Send.l5, if_pos (by omega)]; rfl
    (refine (r2 hle).succ 0 fun k _ => ?_); rw [bus_Send.l6, if_neg (by omega), e', if_neg (by omega), if_pos (by omega), if_pos (by omega), if_pos (by omega), if_pos (by omega), hn.2 bn hbn, hat bn hbn, Option.bind_some, hL2, Option.bind_some, if_pos (by omega)]
  (refine (hR (some r) hat l.length 0 (-1) (-1) (by omega) (by omega) (by omega) ?_).succ 0 fun k _ => ?_); rotate_left
  · rw [neonwrightref08_Send.l0]; rfl
  (refine r1.succ 0 fun k _ => ?_); rw [neonwrightref08_Send.l1, if_neg (by omega), if_neg hf', e', if_neg (by omega), if_neg (by omega), if_pos (by omega), if_pos (by omega), if_pos (by omega), if_pos (by omega), hn.2 bn hbn, due_is_at, hat bn hbn, Option.bind_some, hL1, Option.bind_some, if_pos (by omega)]
theorem send_main : ∀ d g next out now, NX next g l.length → (∀ i, i < l.length → g i ≤ c i) → out.length = sumTo g l.length → out.length ≤ 20000 → sumTo c l.length - sumTo g l.length = d → Both l la T c next out now
  | 0, g, next, out, now, hn, hg, hout, h20, hd => by
    have hle := sumTo_le g c l.length hg
    have hsm : ∀ i, i < l.length → g i ≤ 20000 := fun i hi => by have := sumTo_ge g l.length i hi; omega
    have hat : ∀ i, i < l.length → bus_at.f (rd_T55 l (i : Int)).f0 (rd_T55 l (i : Int)).f1 (rd_T55 l (i : Int)).f2 (rd_T55 l (i : Int)).f3 (rd_L1 la (i : Int)) ((g i : Nat) : Int) = some (dD l la i (g i)) := fun i hi => at_D l la hM hok i hi (g i) (by have := hsm i hi; omega)
    obtain ⟨v1, v2⟩ := scan_all l la T g now (fun t ht => D_nonneg l la hM hok t ht (g t))
    have hf : (scanF l la T g now l.length 0 (-1) (-1)).2 < 0 := by
      show (scanAll l la T g now).2 < 0
      rcases v1 with ⟨e1, h⟩ | ⟨e1, t, h1, h2, h3⟩
      · omega
      · have hlt : g t < c t := by
          rcases Nat.lt_or_ge (g t) (c t) with h | h
          · exact h
          · have h4 : g t = c t := by have := hg t h1; omega
            rw [h4] at h2
            have := (hc t h1).1
            omega
        have h5 : sumTo (upd g t) l.length ≤ sumTo c l.length := sumTo_le _ _ _ (fun i hi => by
          unfold upd
          by_cases h : i = t
          · subst h; rw [if_pos rfl]; omega
          · rw [if_neg h]; exact hg i hi)
        rw [sumTo_upd, if_pos h1] at h5
        omega
    clear v1 v2
    refine ⟨(out, 0), ?_, fun hle => ?_, fun h => by omega, h20⟩
    · refine (ref_scan l la T hl8 hla g next hn now out (some (out, 0)) hat l.length 0 (-1) (-1) (by omega) (by omega) (by omega) ?_).succ 0 fun k _ => ?_
      · refine EvS.now 0 fun k _ => ?_
        rw [neonwrightref08_Send.l1, if_neg (by omega), if_pos hf]
      · rw [neonwrightref08_Send.l0]; rfl
    · refine EvS.now 0 fun k _ => ?_
      rw [bus_Send.l5, if_neg (by omega)]
  | d + 1, g, next, out, now, hn, hg, hout, h20, hd => by
    have ih : ∀ g' next' out' now', NX next' g' l.length → (∀ i, i < l.length → g' i ≤ c i) → out'.length = sumTo g' l.length → out'.length ≤ 20000 → sumTo g' l.length = sumTo g l.length + 1 → Both l la T c next' out' now' := fun g' next' out' now' h1 h2 h3 h4 h5 =>
      send_main d g' next' out' now' h1 h2 h3 h4 (by omega)
    by_cases hb : 0 ≤ (scanAll l la T g now).1
    · exact send_step l la T hl8 hM hla hok c hc g next hn hg out hout h20 now hb ih
    have hsm : ∀ i, i < l.length → g i ≤ 20000 := fun i hi => by have := sumTo_ge g l.length i hi; omega
    have hat : ∀ i, i < l.length → bus_at.f (rd_T55 l (i : Int)).f0 (rd_T55 l (i : Int)).f1 (rd_T55 l (i : Int)).f2 (rd_T55 l (i : Int)).f3 (rd_L1 la (i : Int)) ((g i : Nat) : Int) = some (dD l la i (g i)) := fun i hi => at_D l la hM hok i hi (g i) (by have := hsm i hi; omega)
    obtain ⟨v1, v2⟩ := scan_all l la T g now (fun t ht => D_nonneg l la hM hok t ht (g t))
    have hf : 0 ≤ (scanAll l la T g now).2 ∧ ∃ t, t < l.length ∧ dD l la t (g t) < T ∧ dD l la t (g t) = (scanAll l la T g now).2 := by
      clear v2
      rcases v1 with ⟨e1, h⟩ | h
      · have heq : ∀ i, i < l.length → g i = c i := fun i hi => by
          rcases Nat.lt_or_ge (g i) (c i) with h2 | h2
          · have h3 := (hc i hi).2 (g i) h2
            have h4 := h i hi
            omega
          · have := hg i hi; omega
        have := sumTo_same g c l.length heq
        omega
      · exact h
    clear v1 v2
    obtain ⟨hf, t, ht1, ht2, ht3⟩ := hf
    have hb2 : 0 ≤ (scanAll l la T g (scanAll l la T g now).2).1 := by
      obtain ⟨u2_1, u2⟩ := scan_all l la T g (scanAll l la T g now).2 (fun t ht => D_nonneg l la hM hok t ht (g t))
      clear u2_1
      rcases u2 with ⟨e, h⟩ | ⟨bn, e, _, _⟩
      · have := h t ht1 ht2
        omega
      · omega
    obtain ⟨r, r1, r2, r3, r4⟩ := send_step l la T hl8 hM hla hok c hc g next hn hg out hout h20 (scanAll l la T g now).2 hb2 ih
    have hb' : (scanF l la T g now l.length 0 (-1) (-1)).1 < 0 := by show (scanAll l la T g now).1 < 0; omega
    have hf' : ¬ (scanF l la T g now l.length 0 (-1) (-1)).2 < 0 := by show ¬ (scanAll l la T g now).2 < 0; omega
    refine ⟨r, ?_, fun hle => ?_, r3, r4⟩
    · refine (ref_scan l la T hl8 hla g next hn now out (some r) hat l.length 0 (-1) (-1) (by omega) (by omega) (by omega) ?_).succ 0 fun k _ => ?_
      · refine r1.succ 0 fun k _ => ?_
        rw [neonwrightref08_Send.l1, if_neg (by omega), if_neg hf', if_pos hb']
      · rw [neonwrightref08_Send.l0]; rfl
    · refine (send_scan l la T hl8 hla g next hn ((sumTo c l.length : Nat) : Int) now out (some r) hat l.length 0 (-1) (-1) (by omega) (by omega) (by omega) ?_).succ 0 fun k _ => ?_
      · refine (r2 hle).succ 0 fun k _ => ?_
        rw [bus_Send.l6, if_neg (by omega), if_pos hb']
      · rw [bus_Send.l5, if_pos (by omega)]; rfl
theorem send_l4 (next : List Int) (i : Nat) (hi : i < l.length) (r : Option SRes) : ∀ q a j, c i - j = q → j ≤ c i → j ≤ a → a + q ≤ 20000 →
    EvS (fun k => bus_Send.l3 k l la T next ((a + q : Nat) : Int) l (l.length : Int) ((i + 1 : Nat) : Int)) r →
    EvS (fun k => bus_Send.l4 k l la T next (a : Int) (i : Int) (j : Int) l (l.length : Int) (i : Int) (rd_T55 l (i : Int)).f0 (rd_T55 l (i : Int)).f1 (rd_T55 l (i : Int)).f2 (rd_T55 l (i : Int)).f3) r
  | 0, a, j, hq, hj, hja, ha, h => by
    obtain rfl : j = c i := by omega
    refine h.succ 0 fun k _ => ?_
    rw [bus_Send.l4, if_pos (by omega), if_pos (by omega), at_D l la hM hok i hi _ (by omega), Option.bind_some, if_neg (by have := (hc i hi).1; omega), nNx i (by omega)]
    rfl
  | q + 1, a, j, hq, hj, hja, ha, h => by
    refine (send_l4 next i hi r q (a + 1) (j + 1) (by omega) (by omega) (by omega) (by omega) (by rw [show a + 1 + q = a + (q + 1) by omega]; exact h)).succ 0 fun k _ => ?_
    rw [bus_Send.l4, if_pos (by omega), if_pos (by omega), at_D l la hM hok i hi j (by omega), Option.bind_some, if_pos ((hc i hi).2 j (by omega)), nNx a (by omega), if_neg (by omega), nNx j (by omega)]
omit hl8 in
theorem send_l4_full (next : List Int) (i : Nat) (hi : i < l.length) : ∀ q a j, c i - j = q → j ≤ c i → j ≤ a → a ≤ 20000 → 20000 < a + q →
    EvS (fun k => bus_Send.l4 k l la T next (a : Int) (i : Int) (j : Int) l (l.length : Int) (i : Int) (rd_T55 l (i : Int)).f0 (rd_T55 l (i : Int)).f1 (rd_T55 l (i : Int)).f2 (rd_T55 l (i : Int)).f3) (some ([], 8))
  | 0, a, j, hq, hj, hja, ha, h => by omega
  | q + 1, a, j, hq, hj, hja, ha, h => by
    by_cases hf : a = 20000
    · refine EvS.now 0 fun k _ => ?_
      rw [bus_Send.l4, if_pos (by omega), if_pos (by omega), at_D l la hM hok i hi j (by omega), Option.bind_some, if_pos ((hc i hi).2 j (by omega)), nNx a (by omega), if_pos (by omega)]
    · refine (send_l4_full next i hi q (a + 1) (j + 1) (by omega) (by omega) (by omega) (by omega) (by omega)).succ 0 fun k _ => ?_
      rw [bus_Send.l4, if_pos (by omega), if_pos (by omega), at_D l la hM hok i hi j (by omega), Option.bind_some, if_pos ((hc i hi).2 j (by omega)), nNx a (by omega), if_neg (by omega), nNx j (by omega)]
theorem send_l3 (next : List Int) (r : Option SRes) (hle : sumTo c l.length ≤ 20000) (h : EvS (fun k => bus_Send.l5 k l la T next ((sumTo c l.length : Nat) : Int) [] 0) r) : ∀ q i, i + q = l.length →
    EvS (fun k => bus_Send.l3 k l la T next ((sumTo c i : Nat) : Int) l (l.length : Int) (i : Int)) r
  | 0, i, hq => by
    obtain rfl : i = l.length := by omega
    refine h.succ 0 fun k _ => ?_
    rw [bus_Send.l3, if_neg (by omega)]
  | q + 1, i, hq => by
    have ih := send_l3 next r hle h q (i + 1) (by omega)
    have h1 := sumTo_mono c (i + 1) l.length (by omega)
    have e : sumTo c (i + 1) = sumTo c i + c i := rfl
    have h4 := send_l4 l la T hl8 hM hla hok c hc next i (by omega) r (c i) (sumTo c i) 0 (by omega) (by omega) (by omega) (by omega) (by rw [← e]; exact ih)
    refine h4.succ 0 fun k _ => ?_
    rw [bus_Send.l3, if_pos (by omega), if_pos (by omega), if_pos (by omega)]
    rfl
theorem send_l3_full (next : List Int) (hgt : 20000 < sumTo c l.length) : ∀ q i, i + q = l.length → sumTo c i ≤ 20000 →
    EvS (fun k => bus_Send.l3 k l la T next ((sumTo c i : Nat) : Int) l (l.length : Int) (i : Int)) (some ([], 8))
  | 0, i, hq, hi => by
    obtain rfl : i = l.length := by omega
    omega
  | q + 1, i, hq, hi => by
    have e : sumTo c (i + 1) = sumTo c i + c i := rfl
    by_cases hs : sumTo c (i + 1) ≤ 20000
    · have ih := send_l3_full next hgt q (i + 1) (by omega) hs
      have h4 := send_l4 l la T hl8 hM hla hok c hc next i (by omega) (some ([], 8)) (c i) (sumTo c i) 0 (by omega) (by omega) (by omega) (by omega) (by rw [← e]; exact ih)
      refine h4.succ 0 fun k _ => ?_
      rw [bus_Send.l3, if_pos (by omega), if_pos (by omega), if_pos (by omega)]
      rfl
    · have h4 := send_l4_full l la T hM hla hok c hc next i (by omega) (c i) (sumTo c i) 0 (by omega) (by omega) (by omega) (by omega) (by omega)
      refine h4.succ 0 fun k _ => ?_
      rw [bus_Send.l3, if_pos (by omega), if_pos (by omega), if_pos (by omega)]
      rfl
end
theorem rd_zero (n i : Nat) : rd (List.replicate n 0) (i : Int) = 0 := by
  show (List.replicate n (0 : Int)).getD i 0 = 0
  rw [List.getD_eq_getElem?_getD, List.getElem?_replicate]
  split <;> rfl
theorem Send_alike (l : List S55) (la : List (List Int)) (T : Int) (hsz : ∀ i, i < la.length → (rd_L1 la (i : Int)).length ≤ 1000) :
    ∃ r : SRes, EvS (fun k => bus_Send.f k l la T) (some r) ∧ EvS (fun k => neonwrightref08_Send.f k l la T) (some r) ∧ r.1.length ≤ 20000 := by
  (have hms := Messages_eq l); (have bad1 : ∀ b : Bool, b = true → EvS (fun k => bus_Send.j0 k l la T b) (some ([], 2)) := fun b hb => EvS.now 0 fun k _ => by rw [bus_Send.j0, if_pos hb]); (have bad2 : ∀ b : Bool, b = true → EvS (fun k => neonwrightref08_Late.j0 k l la b) (some false) := fun b hb => EvS.now 0 fun k _ => by rw [neonwrightref08_Late.j0, if_pos hb])
  have bad3 : EvS (fun k => neonwrightref08_Late.f k l la T) (some false) → EvS (fun k => neonwrightref08_Send.f k l la T) (some ([], 2)) := fun h =>
    h.bind ⟨0, fun k _ => if_neg (by simp)⟩
  (cases hs : sentB l)
  · rw [hs] at hms; (refine ⟨([], 2), (bad1 true rfl).same fun k => ?_, bad3 (hms.bind ((bad2 true rfl).same fun k => ?_)), by simp⟩); rotate_left
    · rw [if_neg (by simp)]
    (show (bus_sent.f l).bind _ = _); rw [bus_sent.f, hs, Option.bind_some, if_neg (by simp)]
  rw [hs] at hms; (obtain ⟨hl8, hM⟩ := sentB_ok l hs); by_cases t1 : T < 0
  · (refine ⟨([], 2), (bad1 true rfl).same fun k => ?_, bad3 (hms.bind ((bad2 true rfl).same fun k => ?_)), by simp⟩); rotate_left
    · rw [if_pos rfl, if_pos t1]
    (show (bus_sent.f l).bind _ = _); rw [bus_sent.f, hs, Option.bind_some, if_pos rfl, if_pos t1]
  by_cases t2 : T > 1000000
  · (refine ⟨([], 2), (bad1 true rfl).same fun k => ?_, bad3 (hms.bind ((bad2 true rfl).same fun k => ?_)), by simp⟩); rotate_left
    · rw [if_pos rfl, if_neg t1, if_pos t2]
    (show (bus_sent.f l).bind _ = _); rw [bus_sent.f, hs, Option.bind_some, if_pos rfl, if_neg t1, if_pos t2]
  by_cases hla : la.length = l.length
  case neg =>
   (have e : ((la.length : Int) != (l.length : Int)) = true := by simp; omega); (refine ⟨([], 2), (bad1 _ e).same fun k => ?_, bad3 (hms.bind ((bad2 _ e).same fun k => ?_)), by simp⟩); rotate_left
   · rw [if_pos rfl, if_neg t1, if_neg t2]
   (show (bus_sent.f l).bind _ = _); rw [bus_sent.f, hs, Option.bind_some, if_pos rfl, if_neg t1, if_neg t2]
  (have e : ((la.length : Int) != (l.length : Int)) = false := by simp; omega)
  have go1 : ∀ r, EvS (fun k => bus_Send.l0 k l la T l (l.length : Int) ((0 : Nat) : Int)) r → EvS (fun k => bus_Send.f k l la T) r := fun r h => by
    refine EvS.same (g := fun k => bus_Send.j0 k l la T false) (h.succ 0 fun k _ => ?_) fun k => ?_
    · rw [bus_Send.j0, if_neg (by simp)]; rfl
    · show (bus_sent.f l).bind _ = _
      rw [bus_sent.f, hs, Option.bind_some, if_pos rfl, if_neg t1, if_neg t2, e]
  have go2 : ∀ r, EvS (fun k => neonwrightref08_Late.l0 k l la ((0 : Nat) : Int)) r → EvS (fun k => neonwrightref08_Late.f k l la T) r := fun r h => by
    refine hms.bind (EvS.same (g := fun k => neonwrightref08_Late.j0 k l la false) (h.succ 0 fun k _ => ?_) fun k => ?_)
    · rw [neonwrightref08_Late.j0, if_neg (by simp)]; rfl
    · rw [if_pos rfl, if_neg t1, if_neg t2, e]
  by_cases hok : okFrom l la 0; (case neg => exact ⟨([], 2), go1 _ (send_l0_bad l la T hl8 hM hla hsz _ 0 rfl hok), bad3 (go2 _ (late_l0_bad l la hl8 hM hla hsz _ 0 rfl hok)), by simp⟩); (have hL := go2 _ (late_l0 l la hl8 hM hla hsz _ 0 rfl (by omega) hok)); (obtain ⟨c, hc⟩ := counts l la T hM); (have hn : NX (List.replicate l.length (0 : Int)) (fun _ => 0) l.length := ⟨by simp, fun i _ => by rw [rd_zero]; rfl⟩)
  have hz : ∀ n, sumTo (fun _ => 0) n = 0 := fun n => by
    induction n with
    | zero => rfl
    | succ n ih => simp only [sumTo]; omega
  (obtain ⟨r, r1, r2, r3, r4⟩ := send_main l la T hl8 hM hla hok c hc _ (fun _ => 0) (List.replicate l.length 0) [] 0 hn (fun _ _ => by omega) (by rw [hz]; rfl) (by simp) rfl)
  have hR : EvS (fun k => neonwrightref08_Send.f k l la T) (some r) := hL.bind (r1.same fun k => by
    rw [if_pos rfl, if_pos (by omega), if_pos (by omega)]; rfl)
  by_cases hle : sumTo c l.length ≤ 20000
  · (have h3 := send_l3 l la T hl8 hM hla hok c hc (List.replicate l.length 0) (some r) hle (r2 hle) l.length 0 (by omega)); (exact ⟨r, go1 _ (send_l0 l la T hl8 hM hla hsz _ h3 _ 0 rfl (Nat.zero_le _) hok), hR, r4⟩)
  (have h3 := send_l3_full l la T hl8 hM hla hok c hc (List.replicate l.length 0) (by omega) l.length 0 (by omega) (by show 0 ≤ 20000; omega)); (have e8 := r3 (by omega)); subst e8; (exact ⟨([], 8), go1 _ (send_l0 l la T hl8 hM hla hsz _ h3 _ 0 rfl (Nat.zero_le _) hok), hR, by simp⟩)
end Go.Proofs.YtbanemecfobonaaDoor.B
