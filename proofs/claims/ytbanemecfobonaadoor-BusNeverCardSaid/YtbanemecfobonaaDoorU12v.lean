/- Written by a program (lite.py) from my texts. -/
import Derived.Test.YtbanemecfobonaaDoorU11v
import Derived.Test.YtbanemecfobonaaDoorBM4v
namespace Go.Proofs.YtbanemecfobonaaDoor.B
open Go.RowKit Go.Proofs.YtbanemecfobonaaDoorW.PrintWords Go.Proofs.YtbanemecfobonaaDoorW.PrintLast Go.Proofs.YtbanemecfobonaaDoorW.PrintMore
set_option linter.unusedVariables false
set_option linter.unusedSimpArgs false
theorem leastN (P : Nat → Prop) (n : Nat) : P n → ∃ m, P m ∧ ∀ k, k < m → ¬ P k := by
  induction n using Nat.strongRecOn with
  | ind n ih =>
    intro hn
    by_cases h : ∃ k, k < n ∧ P k
    · obtain ⟨k, hk, hp⟩ := h
      exact ih k hk hp
    · exact ⟨n, hn, fun k hk hp => h ⟨k, hk, hp⟩⟩
def sumTo (g : Nat → Nat) : Nat → Nat
  | 0 => 0
  | n + 1 => sumTo g n + g n
theorem sumTo_le (g c : Nat → Nat) : ∀ n, (∀ i, i < n → g i ≤ c i) → sumTo g n ≤ sumTo c n
  | 0, _ => Nat.le_refl _
  | n + 1, h => by
    have := sumTo_le g c n (fun i hi => h i z3)
    have := h n z3
    simp only [sumTo]; omega
theorem sumTo_same (g c : Nat → Nat) : ∀ n, (∀ i, i < n → g i = c i) → sumTo g n = sumTo c n
  | 0, _ => rfl
  | n + 1, h => by simp only [sumTo]; rw [sumTo_same g c n (fun i hi => h i z3), h n z3]
theorem sumTo_ge (g : Nat → Nat) : ∀ n i, i < n → g i ≤ sumTo g n
  | 0, i, h => by omega
  | n + 1, i, h => by
    by_cases hi : i = n
    · subst hi; simp only [sumTo]; omega
    · have := sumTo_ge g n i z3; simp only [sumTo]; omega
theorem sumTo_mono (g : Nat → Nat) (n m : Nat) (h : n ≤ m) : sumTo g n ≤ sumTo g m := by
  induction m with
  | zero => obtain rfl : n = 0 := by omega
            exact Nat.le_refl _
  | succ m ih =>
    by_cases hn : n = m + 1
    · subst hn; exact Nat.le_refl _
    · have := ih z3; simp only [sumTo]; omega
def upd (g : Nat → Nat) (b : Nat) : Nat → Nat := fun j => if j = b then g j + 1 else g j
theorem sumTo_upd (g : Nat → Nat) (b : Nat) : ∀ n, sumTo (upd g b) n = if b < n then sumTo g n + 1 else sumTo g n
  | 0 => by rw [if_neg z3]; rfl
  | n + 1 => by
    simp only [sumTo]
    rw [sumTo_upd g b n]
    by_cases h1 : b < n
    · rw [if_pos h1, if_pos z3]; unfold upd; rw [if_neg z3]; omega
    · by_cases h2 : b = n
      · subst h2; rw [if_neg z3, if_pos z3]; unfold upd; rw [if_pos rfl]; omega
      · rw [if_neg h1, if_neg z3]; unfold upd; rw [if_neg z3]
theorem rd_set (x : List Int) (b : Nat) (v : Int) (hb : b < x.length) (i : Nat) : rd (x.set b v) (i : Int) = if i = b then v else rd x (i : Int) := by
  show (x.set b v).getD i 0 = if i = b then v else x.getD i 0
  rw [List.getD_eq_getElem?_getD, List.getElem?_set]
  by_cases h : i = b
  · subst h; rw [if_pos rfl, if_pos rfl, if_pos hb]; rfl
  · rw [if_neg (fun e => h e.symm), if_neg h, List.getD_eq_getElem?_getD]
def NX (next : List Int) (g : Nat → Nat) (n : Nat) : Prop := next.length = n ∧ ∀ i, i < n → rd next (i : Int) = ((g i : Nat) : Int)
theorem NX.upd {next : List Int} {g : Nat → Nat} {n : Nat} (h : NX next g n) (b : Nat) (hb : b < n) (hg : g b ≤ 1000000) : NX (next.set (b : Int).toNat (wrap64 (rd next (b : Int) + 1))) (upd g b) n := by
  have e : (b : Int).toNat = b := by omega
  refine ⟨by rw [List.length_set]; exact h.1, fun i hi => ?_⟩
  rw [e, rd_set _ _ _ (by rw [h.1]; exact hb)]
  unfold B.upd
  by_cases hi2 : i = b
  · subst hi2; rw [if_pos rfl, if_pos rfl, h.2 i hi, nNx _ z3]
  · rw [if_neg hi2, if_neg hi2, h.2 i hi]
section
variable (l : List S55) (la : List (List Int)) (T : Int)
def dD (i j : Nat) : Int := dueN (rd_T55 l (i : Int)).f2 (rd_L1 la (i : Int)) j
def scanF (g : Nat → Nat) (now : Int) : Nat → Nat → Int → Int → Int × Int
  | 0, i, b, f => (b, f)
  | q + 1, i, b, f => if T ≤ dD l la i (g i) then scanF g now q (i + 1) b f else
      scanF g now q (i + 1) (if dD l la i (g i) ≤ now ∧ (b < 0 ∨ (rd_T55 l (i : Int)).f0 < (rd_T55 l b).f0) then (i : Int) else b) (if f < 0 ∨ dD l la i (g i) < f then dD l la i (g i) else f)
def scanInv (g : Nat → Nat) (now : Int) (i : Nat) (b f : Int) : Prop :=
  (f = -1 ∧ (∀ t, t < i → T ≤ dD l la t (g t)) ∨ 0 ≤ f ∧ ∃ t, t < i ∧ dD l la t (g t) < T ∧ dD l la t (g t) = f) ∧
  (b = -1 ∧ (∀ t, t < i → dD l la t (g t) < T → now < dD l la t (g t)) ∨ ∃ bn : Nat, b = (bn : Int) ∧ bn < i ∧ dD l la bn (g bn) < T)
theorem scan_inv (g : Nat → Nat) (now : Int) (hD : ∀ t, t < l.length → 0 ≤ dD l la t (g t)) : ∀ q i b f, i + q = l.length → scanInv l la T g now i b f → scanInv l la T g now l.length (scanF l la T g now q i b f).1 (scanF l la T g now q i b f).2
  | 0, i, b, f, hq, h => by
    obtain rfl : i = l.length := by omega
    exact h
  | q + 1, i, b, f, hq, h => by
    obtain ⟨h1, h2⟩ := h
    have hd := hD i z3
    rw [scanF]
    by_cases ht : T ≤ dD l la i (g i)
    · rw [if_pos ht]
      refine scan_inv g now hD q (i + 1) b f z3 ⟨?_, ?_⟩
      · rcases h1 with ⟨e, h⟩ | ⟨e, t, h3, h4⟩
        · refine .inl ⟨e, fun t h5 => ?_⟩
          by_cases h6 : t = i
          · subst h6; exact ht
          · exact h t z3
        · exact .inr ⟨e, t, by omega, h4⟩
      · rcases h2 with ⟨e, h⟩ | ⟨bn, e, h3, h4⟩
        · refine .inl ⟨e, fun t h5 h7 => ?_⟩
          by_cases h6 : t = i
          · subst h6; omega
          · exact h t z3 h7
        · exact .inr ⟨bn, e, by omega, h4⟩
    · rw [if_neg ht]
      refine scan_inv g now hD q (i + 1) _ _ z3 ⟨?_, ?_⟩
      · by_cases hf : f < 0 ∨ dD l la i (g i) < f
        · rw [if_pos hf]; exact .inr ⟨hd, i, by omega, by omega, rfl⟩
        · rw [if_neg hf]
          rcases h1 with ⟨e, h⟩ | ⟨e, t, h3, h4⟩
          · omega
          · exact .inr ⟨e, t, by omega, h4⟩
      · by_cases hb : dD l la i (g i) ≤ now ∧ (b < 0 ∨ (rd_T55 l (i : Int)).f0 < (rd_T55 l b).f0)
        · rw [if_pos hb]; exact .inr ⟨i, rfl, by omega, by omega⟩
        · rw [if_neg hb]
          rcases h2 with ⟨e, h⟩ | ⟨bn, e, h3, h4⟩
          · refine .inl ⟨e, fun t h5 h7 => ?_⟩
            by_cases h6 : t = i
            · subst h6
              by_cases h8 : dD l la t (g t) ≤ now
              · exact absurd ⟨h8, .inl z3⟩ hb
              · omega
            · exact h t z3 h7
          · exact .inr ⟨bn, e, by omega, h4⟩
abbrev scanAll (g : Nat → Nat) (now : Int) : Int × Int := scanF l la T g now l.length 0 (-1) (-1)
theorem scan_all (g : Nat → Nat) (now : Int) (hD : ∀ t, t < l.length → 0 ≤ dD l la t (g t)) : scanInv l la T g now l.length (scanAll l la T g now).1 (scanAll l la T g now).2 :=
  scan_inv l la T g now hD l.length 0 (-1) (-1) z3 ⟨.inl ⟨rfl, fun t h => by omega⟩, .inl ⟨rfl, fun t h => by omega⟩⟩
variable (hl8 : l.length ≤ 8) (hM : ∀ i, i < l.length → okM (rd_T55 l (i : Int)) = true) (hla : la.length = l.length) (hok : okFrom l la 0)
include hl8 hM hla hok
omit hl8 hla in
theorem at_D (i : Nat) (hi : i < l.length) (j : Nat) (hj : j ≤ 100000) : bus_at.f (rd_T55 l (i : Int)).f0 (rd_T55 l (i : Int)).f1 (rd_T55 l (i : Int)).f2 (rd_T55 l (i : Int)).f3 (rd_L1 la (i : Int)) (j : Int) = some (dD l la i j) := by
  obtain ⟨_, _, _, _, p1, p2, _, d2⟩ := (okM_iff _).1 (hM i hi)
  exact at_eq _ _ _ _ _ j hj p1 p2 (fun h => by have := (hok i z3 hi).1 j z3 h; omega)
omit hl8 hla in
theorem D_nonneg (i : Nat) (hi : i < l.length) (j : Nat) : 0 ≤ dD l la i j := by
  obtain ⟨_, _, _, _, p1, p2, _, d2⟩ := (okM_iff _).1 (hM i hi)
  have hm : 0 ≤ (j : Int) * (rd_T55 l (i : Int)).f2 := Int.mul_nonneg z3 z3
  unfold dD dueN
  by_cases h : j < (rd_L1 la (i : Int)).length
  · rw [if_pos h]; have := (hok i z3 hi).1 j z3 h; omega
  · rw [if_neg h]; exact hm
omit hl8 hla hok in
theorem counts : ∃ c : Nat → Nat, ∀ i, i < l.length → T ≤ dD l la i (c i) ∧ ∀ j, j < c i → dD l la i j < T := by
  have each : ∀ i, ∃ c, i < l.length → T ≤ dD l la i c ∧ ∀ j, j < c → dD l la i j < T := fun i => by
    by_cases hi : i < l.length
    · obtain ⟨_, _, _, _, p1, p2, _, d2⟩ := (okM_iff _).1 (hM i hi)
      have h0 : T ≤ dD l la i ((rd_L1 la (i : Int)).length + T.toNat) := by
        unfold dD dueN
        rw [if_neg z3]
        have h1 : (((rd_L1 la (i : Int)).length + T.toNat : Nat) : Int) * 1 ≤ (((rd_L1 la (i : Int)).length + T.toNat : Nat) : Int) * (rd_T55 l (i : Int)).f2 := Int.mul_le_mul_of_nonneg_left p1 z3
        omega
      obtain ⟨m, h1, h2⟩ := leastN (fun j => T ≤ dD l la i j) _ h0
      exact ⟨m, fun _ => ⟨h1, fun j hj => by have := h2 j hj; omega⟩⟩
    · exact ⟨0, fun h => absurd h hi⟩
  obtain ⟨c, hc⟩ := Classical.axiomOfChoice each
  exact ⟨c, hc⟩
omit hok hM in
theorem send_scan (g : Nat → Nat) (next : List Int) (hn : NX next g l.length) (all now : Int) (out : List S74) (r : Option SRes)
    (hat : ∀ i, i < l.length → bus_at.f (rd_T55 l (i : Int)).f0 (rd_T55 l (i : Int)).f1 (rd_T55 l (i : Int)).f2 (rd_T55 l (i : Int)).f3 (rd_L1 la (i : Int)) ((g i : Nat) : Int) = some (dD l la i (g i))) :
    ∀ (q i : Nat) (b f : Int), i + q = l.length → -1 ≤ b → b < l.length → EvS (fun k => bus_Send.l6 k l la T next all out now (scanF l la T g now q i b f).1 (scanF l la T g now q i b f).2 l (l.length : Int) (l.length : Int)) r →
    EvS (fun k => bus_Send.l6 k l la T next all out now b f l (l.length : Int) (i : Int)) r
  | 0, i, b, f, hq, hb0, hb1, h => by
    obtain rfl : i = l.length := by omega
    exact h
  | q + 1, i, b, f, hq, hb0, hb1, h => by
    have hnl := hn.1
    rw [scanF] at h
    by_cases ht : T ≤ dD l la i (g i)
    · rw [if_pos ht] at h
      refine (send_scan g next hn all now out r hat q (i + 1) b f z3 hb0 hb1 h).succ 0 fun k _ => ?_
      rw [bus_Send.l6, if_pos z3, if_pos z3, if_pos z3, if_pos z3, if_pos z3, hn.2 i z3, hat i z3, Option.bind_some, if_pos ht, nNx i z3]
    · rw [if_neg ht] at h
      have ih := send_scan g next hn all now out r hat q (i + 1) _ _ z3 (by split <;> omega) (by split <;> omega) h
      clear h
      refine EvS.succ (g := fun k => bus_Send.j8 k l la T next all out now b f (i : Int) (dD l la i (g i)) l (l.length : Int) (i : Int) (decide (dD l la i (g i) ≤ now ∧ (b < 0 ∨ (rd_T55 l (i : Int)).f0 < (rd_T55 l b).f0)))) (ih.succ 0 fun k _ => ?_) 0 fun k _ => ?_
      · rw [bus_Send.j8, nNx i z3]
        by_cases hb : dD l la i (g i) ≤ now ∧ (b < 0 ∨ (rd_T55 l (i : Int)).f0 < (rd_T55 l b).f0)
        · rw [dT hb, if_pos rfl, if_pos hb]
          by_cases h1 : f < 0
          · rw [if_pos h1, if_pos (.inl h1)]
          · rw [if_neg h1]
            by_cases h2 : dD l la i (g i) < f
            · rw [if_pos h2, if_pos (.inr h2)]
            · rw [if_neg h2, if_neg z3]
        · rw [dF hb, if_neg (by simp), if_neg hb]
          by_cases h1 : f < 0
          · rw [if_pos h1, if_pos (.inl h1)]
          · rw [if_neg h1]
            by_cases h2 : dD l la i (g i) < f
            · rw [if_pos h2, if_pos (.inr h2)]
            · rw [if_neg h2, if_neg z3]
      · rw [bus_Send.l6, if_pos z3, if_pos z3, if_pos z3, if_pos z3, if_pos z3, hn.2 i z3, hat i z3, Option.bind_some, if_neg ht]
        by_cases c1 : dD l la i (g i) ≤ now
        · rw [if_pos c1]
          by_cases c2 : b < 0
          · rw [if_pos c2, dT (⟨c1, .inl c2⟩ : _ ∧ _)]
          · rw [if_neg c2, if_pos z3, if_pos z3]
            congr 1
            by_cases c3 : (rd_T55 l (i : Int)).f0 < (rd_T55 l b).f0
            · rw [dT c3, dT (⟨c1, .inr c3⟩ : _ ∧ _)]
            · rw [dF c3, dF (fun h => by rcases h.2 with h | h <;> omega)]
        · rw [if_neg c1, dF (fun h => c1 h.1)]
omit hok hM in
theorem ref_scan (g : Nat → Nat) (next : List Int) (hn : NX next g l.length) (now : Int) (out : List S74) (r : Option SRes)
    (hat : ∀ i, i < l.length → bus_at.f (rd_T55 l (i : Int)).f0 (rd_T55 l (i : Int)).f1 (rd_T55 l (i : Int)).f2 (rd_T55 l (i : Int)).f3 (rd_L1 la (i : Int)) ((g i : Nat) : Int) = some (dD l la i (g i))) :
    ∀ (q i : Nat) (b f : Int), i + q = l.length → -1 ≤ b → b < l.length → EvS (fun k => r8_Send.l1 k l la T next out now (scanF l la T g now q i b f).1 (scanF l la T g now q i b f).2 (l.length : Int)) r →
    EvS (fun k => r8_Send.l1 k l la T next out now b f (i : Int)) r
  | 0, i, b, f, hq, hb0, hb1, h => by
    obtain rfl : i = l.length := by omega
    exact h
  | q + 1, i, b, f, hq, hb0, hb1, h => by
    have hnl := hn.1
    rw [scanF] at h
    by_cases ht : T ≤ dD l la i (g i)
    · rw [if_pos ht] at h
      refine (ref_scan g next hn now out r hat q (i + 1) b f z3 hb0 hb1 h).succ 0 fun k _ => ?_
      rw [r8_Send.l1, if_pos z3, if_pos z3, if_pos z3, if_pos z3, hn.2 i z3, due_is_at, hat i z3, Option.bind_some, if_pos ht, nNx i z3]
    · rw [if_neg ht] at h
      have ih := ref_scan g next hn now out r hat q (i + 1) _ _ z3 (by split <;> omega) (by split <;> omega) h
      clear h
      refine EvS.succ (g := fun k => r8_Send.j2 k l la T next out now b f (i : Int) (dD l la i (g i)) (decide (f < 0 ∨ dD l la i (g i) < f))) (ih.succ 0 fun k _ => ?_) 0 fun k _ => ?_
      · rw [r8_Send.j2, nNx i z3]
        by_cases hf : f < 0 ∨ dD l la i (g i) < f
        · rw [dT hf, if_pos rfl, if_pos hf]
          by_cases c1 : dD l la i (g i) ≤ now
          · rw [if_pos c1]
            by_cases c2 : b < 0
            · rw [if_pos c2, if_pos (⟨c1, .inl c2⟩ : _ ∧ _)]
            · rw [if_neg c2, if_pos z3, if_pos z3, if_pos z3, if_pos z3]
              by_cases c3 : (rd_T55 l (i : Int)).f0 < (rd_T55 l b).f0
              · rw [if_pos c3, if_pos (⟨c1, .inr c3⟩ : _ ∧ _)]
              · rw [if_neg c3, if_neg (fun h => by rcases h.2 with h | h <;> omega)]
          · rw [if_neg c1, if_neg (fun h => c1 h.1)]
        · rw [dF hf, if_neg (by simp), if_neg hf]
          by_cases c1 : dD l la i (g i) ≤ now
          · rw [if_pos c1]
            by_cases c2 : b < 0
            · rw [if_pos c2, if_pos (⟨c1, .inl c2⟩ : _ ∧ _)]
            · rw [if_neg c2, if_pos z3, if_pos z3, if_pos z3, if_pos z3]
              by_cases c3 : (rd_T55 l (i : Int)).f0 < (rd_T55 l b).f0
              · rw [if_pos c3, if_pos (⟨c1, .inr c3⟩ : _ ∧ _)]
              · rw [if_neg c3, if_neg (fun h => by rcases h.2 with h | h <;> omega)]
          · rw [if_neg c1, if_neg (fun h => c1 h.1)]
      · rw [r8_Send.l1, if_pos z3, if_pos z3, if_pos z3, if_pos z3, hn.2 i z3, due_is_at, hat i z3, Option.bind_some, if_neg ht]
        by_cases c1 : f < 0
        · rw [if_pos c1, dT (.inl c1 : _ ∨ _)]
        · rw [if_neg c1]
          congr 1
          by_cases c2 : dD l la i (g i) < f
          · rw [dT c2, dT (.inr c2 : _ ∨ _)]
          · rw [dF c2, dF z3]
def longV (x : Int) : Int := wrap64 ((wrap64 (47 + (wrap64 (8 * x)))) + (wrap64 (Int.tdiv (wrap64 (33 + (wrap64 (8 * x)))) 4)))
variable (c : Nat → Nat) (hc : ∀ i, i < l.length → T ≤ dD l la i (c i) ∧ ∀ j, j < c i → dD l la i j < T)
include hc
def Both (next : List Int) (out : List S74) (now : Int) : Prop :=
  ∃ r : SRes, EvS (fun k => r8_Send.l0 k l la T next out now) (some r) ∧ (sumTo c l.length ≤ 20000 → EvS (fun k => bus_Send.l5 k l la T next ((sumTo c l.length : Nat) : Int) out now) (some r)) ∧ (20000 < sumTo c l.length → r = ([], 8)) ∧ r.1.length ≤ 20000
theorem send_step (g : Nat → Nat) (next : List Int) (hn : NX next g l.length) (hg : ∀ i, i < l.length → g i ≤ c i) (out : List S74) (hout : out.length = sumTo g l.length) (h20 : out.length ≤ 20000) (now : Int)
    (hb : 0 ≤ (scanAll l la T g now).1)
    (ih : ∀ g' next' out' now', NX next' g' l.length → (∀ i, i < l.length → g' i ≤ c i) → out'.length = sumTo g' l.length → out'.length ≤ 20000 → sumTo g' l.length = sumTo g l.length + 1 → Both l la T c next' out' now') :
    Both l la T c next out now := by
  (have hsm : ∀ i, i < l.length → g i ≤ 20000 := fun i hi => by have := sumTo_ge g l.length i hi; omega); (have hat : ∀ i, i < l.length → bus_at.f (rd_T55 l (i : Int)).f0 (rd_T55 l (i : Int)).f1 (rd_T55 l (i : Int)).f2 (rd_T55 l (i : Int)).f3 (rd_L1 la (i : Int)) ((g i : Nat) : Int) = some (dD l la i (g i)) := fun i hi => at_D l la hM hok i hi (g i) (by have := hsm i hi; omega)); (obtain ⟨v1, v2⟩ := scan_all l la T g now (fun t ht => D_nonneg l la hM hok t ht (g t))); (have hS := send_scan l la T hl8 hla g next hn ((sumTo c l.length : Nat) : Int) now out); (have hR := ref_scan l la T hl8 hla g next hn now out); have hnl := hn.1; (rcases v2 with ⟨e, _⟩ | ⟨bn, e, hbn, hbT⟩)
  · omega
  have hgb : g bn < c bn := by
    rcases Nat.lt_or_ge (g bn) (c bn) with h | h
    · exact h
    · have : g bn = c bn := by have := hg bn hbn; omega
      have h2 := (hc bn hbn).1
      have h3 : g bn = c bn := by omega
      rw [h3] at hbT
      omega
  have hf : 0 ≤ (scanAll l la T g now).2 := by
    rcases v1 with ⟨e1, h⟩ | ⟨e1, _⟩
    · have := h bn hbn; omega
    · exact e1
  have hslt : sumTo g l.length < sumTo c l.length := by
    have h1 : sumTo (upd g bn) l.length ≤ sumTo c l.length := sumTo_le _ _ _ (fun i hi => by
      unfold upd
      by_cases h : i = bn
      · subst h; rw [if_pos rfl]; omega
      · rw [if_neg h]; exact hg i hi)
    rw [sumTo_upd, if_pos hbn] at h1
    omega
  by_cases hfull : out.length = 20000
  · (refine ⟨([], 8), ?_, fun h => by omega, fun _ => rfl, by simp⟩); (refine (hR (some ([], 8)) hat l.length 0 (-1) (-1) z3 z3 z3 ?_).succ 0 fun k _ => ?_); rotate_left
    · rw [r8_Send.l0]; rfl
    (refine EvS.now 0 fun k _ => ?_); rw [r8_Send.l1, if_neg z3, if_neg (by show ¬ (scanAll l la T g now).2 < 0; omega), if_neg (by show ¬ (scanAll l la T g now).1 < 0; omega), if_pos z3]
  (have hn2 := hn.upd bn hbn (by have := hsm bn hbn; omega))
  have hg2 : ∀ i, i < l.length → upd g bn i ≤ c i := fun i hi => by
    unfold upd
    by_cases h : i = bn
    · subst h; rw [if_pos rfl]; omega
    · rw [if_neg h]; exact hg i hi
  (have hs2 : sumTo (upd g bn) l.length = sumTo g l.length + 1 := by rw [sumTo_upd, if_pos hbn])
  obtain ⟨r, r1, r2, r3, r4⟩ := ih (upd g bn) (next.set (bn : Int).toNat (wrap64 (rd next (bn : Int) + 1))) (out ++ [(⟨(rd_T55 l (bn : Int)).f0, dD l la bn (g bn), wrap64 (now + longV (rd_T55 l (bn : Int)).f1)⟩ : S74)]) (wrap64 (now + longV (rd_T55 l (bn : Int)).f1)) hn2 hg2
    (by rw [List.length_append, hs2, hout]; rfl) (by rw [List.length_append]; show out.length + 1 ≤ 20000; omega) hs2
  (have e' : (scanF l la T g now l.length 0 (-1) (-1)).1 = (bn : Int) := e); (have hf' : ¬ (scanF l la T g now l.length 0 (-1) (-1)).2 < 0 := by show ¬ (scanAll l la T g now).2 < 0; omega); (have hL1 : r8_longest.f (rd_T55 l (bn : Int)).f1 = some (longV (rd_T55 l (bn : Int)).f1) := rfl); (have hL2 : bus_bits.f (rd_T55 l (bn : Int)).f0 (rd_T55 l (bn : Int)).f1 (rd_T55 l (bn : Int)).f2 (rd_T55 l (bn : Int)).f3 = some (longV (rd_T55 l (bn : Int)).f1) := rfl); (refine ⟨r, ?_, fun hle => ?_, r3, r4⟩); rotate_left
  · (refine (hS (some r) hat l.length 0 (-1) (-1) z3 z3 z3 ?_).succ 0 fun k _ => ?_); rotate_left
    · rw [bus_Send.l5, if_pos z3]; rfl
    (refine (r2 hle).succ 0 fun k _ => ?_); rw [bus_Send.l6, if_neg z3, e', if_neg z3, if_pos z3, if_pos z3, if_pos z3, if_pos z3, hn.2 bn hbn, hat bn hbn, Option.bind_some, hL2, Option.bind_some, if_pos z3]
  (refine (hR (some r) hat l.length 0 (-1) (-1) z3 z3 z3 ?_).succ 0 fun k _ => ?_); rotate_left
  · rw [r8_Send.l0]; rfl
  (refine r1.succ 0 fun k _ => ?_); rw [r8_Send.l1, if_neg z3, if_neg hf', e', if_neg z3, if_neg z3, if_pos z3, if_pos z3, if_pos z3, if_pos z3, hn.2 bn hbn, due_is_at, hat bn hbn, Option.bind_some, hL1, Option.bind_some, if_pos z3]
theorem send_main : ∀ d g next out now, NX next g l.length → (∀ i, i < l.length → g i ≤ c i) → out.length = sumTo g l.length → out.length ≤ 20000 → sumTo c l.length - sumTo g l.length = d → Both l la T c next out now
  | 0, g, next, out, now, hn, hg, hout, h20, hd => by
    have hle := sumTo_le g c l.length hg
    have hsm : ∀ i, i < l.length → g i ≤ 20000 := fun i hi => by have := sumTo_ge g l.length i hi; omega
    have hat : ∀ i, i < l.length → bus_at.f (rd_T55 l (i : Int)).f0 (rd_T55 l (i : Int)).f1 (rd_T55 l (i : Int)).f2 (rd_T55 l (i : Int)).f3 (rd_L1 la (i : Int)) ((g i : Nat) : Int) = some (dD l la i (g i)) := fun i hi => at_D l la hM hok i hi (g i) (by have := hsm i hi; omega)
    obtain ⟨v1, v2⟩ := scan_all l la T g now (fun t ht => D_nonneg l la hM hok t ht (g t))
    have hf : (scanF l la T g now l.length 0 (-1) (-1)).2 < 0 := by
      show (scanAll l la T g now).2 < 0
      rcases v1 with ⟨e1, h⟩ | ⟨e1, t, h1, h2, h3⟩
      · omega
      · have hlt : g t < c t := by
          rcases Nat.lt_or_ge (g t) (c t) with h | h
          · exact h
          · have h4 : g t = c t := by have := hg t h1; omega
            rw [h4] at h2
            have := (hc t h1).1
            omega
        have h5 : sumTo (upd g t) l.length ≤ sumTo c l.length := sumTo_le _ _ _ (fun i hi => by
          unfold upd
          by_cases h : i = t
          · subst h; rw [if_pos rfl]; omega
          · rw [if_neg h]; exact hg i hi)
        rw [sumTo_upd, if_pos h1] at h5
        omega
    clear v1 v2
    refine ⟨(out, 0), ?_, fun hle => ?_, fun h => by omega, h20⟩
    · refine (ref_scan l la T hl8 hla g next hn now out (some (out, 0)) hat l.length 0 (-1) (-1) z3 z3 z3 ?_).succ 0 fun k _ => ?_
      · refine EvS.now 0 fun k _ => ?_
        rw [r8_Send.l1, if_neg z3, if_pos hf]
      · rw [r8_Send.l0]; rfl
    · refine EvS.now 0 fun k _ => ?_
      rw [bus_Send.l5, if_neg z3]
  | d + 1, g, next, out, now, hn, hg, hout, h20, hd => by
    have ih : ∀ g' next' out' now', NX next' g' l.length → (∀ i, i < l.length → g' i ≤ c i) → out'.length = sumTo g' l.length → out'.length ≤ 20000 → sumTo g' l.length = sumTo g l.length + 1 → Both l la T c next' out' now' := fun g' next' out' now' h1 h2 h3 h4 h5 =>
      send_main d g' next' out' now' h1 h2 h3 h4 z3
    by_cases hb : 0 ≤ (scanAll l la T g now).1
    · exact send_step l la T hl8 hM hla hok c hc g next hn hg out hout h20 now hb ih
    have hsm : ∀ i, i < l.length → g i ≤ 20000 := fun i hi => by have := sumTo_ge g l.length i hi; omega
    have hat : ∀ i, i < l.length → bus_at.f (rd_T55 l (i : Int)).f0 (rd_T55 l (i : Int)).f1 (rd_T55 l (i : Int)).f2 (rd_T55 l (i : Int)).f3 (rd_L1 la (i : Int)) ((g i : Nat) : Int) = some (dD l la i (g i)) := fun i hi => at_D l la hM hok i hi (g i) (by have := hsm i hi; omega)
    obtain ⟨v1, v2⟩ := scan_all l la T g now (fun t ht => D_nonneg l la hM hok t ht (g t))
    have hf : 0 ≤ (scanAll l la T g now).2 ∧ ∃ t, t < l.length ∧ dD l la t (g t) < T ∧ dD l la t (g t) = (scanAll l la T g now).2 := by
      clear v2
      rcases v1 with ⟨e1, h⟩ | h
      · have heq : ∀ i, i < l.length → g i = c i := fun i hi => by
          rcases Nat.lt_or_ge (g i) (c i) with h2 | h2
          · have h3 := (hc i hi).2 (g i) h2
            have h4 := h i hi
            omega
          · have := hg i hi; omega
        have := sumTo_same g c l.length heq
        omega
      · exact h
    clear v1 v2
    obtain ⟨hf, t, ht1, ht2, ht3⟩ := hf
    have hb2 : 0 ≤ (scanAll l la T g (scanAll l la T g now).2).1 := by
      obtain ⟨u2_1, u2⟩ := scan_all l la T g (scanAll l la T g now).2 (fun t ht => D_nonneg l la hM hok t ht (g t))
      clear u2_1
      rcases u2 with ⟨e, h⟩ | ⟨bn, e, _, _⟩
      · have := h t ht1 ht2
        omega
      · omega
    obtain ⟨r, r1, r2, r3, r4⟩ := send_step l la T hl8 hM hla hok c hc g next hn hg out hout h20 (scanAll l la T g now).2 hb2 ih
    have hb' : (scanF l la T g now l.length 0 (-1) (-1)).1 < 0 := by show (scanAll l la T g now).1 < 0; omega
    have hf' : ¬ (scanF l la T g now l.length 0 (-1) (-1)).2 < 0 := by show ¬ (scanAll l la T g now).2 < 0; omega
    refine ⟨r, ?_, fun hle => ?_, r3, r4⟩
    · refine (ref_scan l la T hl8 hla g next hn now out (some r) hat l.length 0 (-1) (-1) z3 z3 z3 ?_).succ 0 fun k _ => ?_
      · refine r1.succ 0 fun k _ => ?_
        rw [r8_Send.l1, if_neg z3, if_neg hf', if_pos hb']
      · rw [r8_Send.l0]; rfl
    · refine (send_scan l la T hl8 hla g next hn ((sumTo c l.length : Nat) : Int) now out (some r) hat l.length 0 (-1) (-1) z3 z3 z3 ?_).succ 0 fun k _ => ?_
      · refine (r2 hle).succ 0 fun k _ => ?_
        rw [bus_Send.l6, if_neg z3, if_pos hb']
      · rw [bus_Send.l5, if_pos z3]; rfl
theorem send_l4 (next : List Int) (i : Nat) (hi : i < l.length) (r : Option SRes) : ∀ q a j, c i - j = q → j ≤ c i → j ≤ a → a + q ≤ 20000 →
    EvS (fun k => bus_Send.l3 k l la T next ((a + q : Nat) : Int) l (l.length : Int) ((i + 1 : Nat) : Int)) r →
    EvS (fun k => bus_Send.l4 k l la T next (a : Int) (i : Int) (j : Int) l (l.length : Int) (i : Int) (rd_T55 l (i : Int)).f0 (rd_T55 l (i : Int)).f1 (rd_T55 l (i : Int)).f2 (rd_T55 l (i : Int)).f3) r
  | 0, a, j, hq, hj, hja, ha, h => by
    obtain rfl : j = c i := by omega
    refine h.succ 0 fun k _ => ?_
    rw [bus_Send.l4, if_pos z3, if_pos z3, at_D l la hM hok i hi _ z3, Option.bind_some, if_neg (by have := (hc i hi).1; omega), nNx i z3]
    rfl
  | q + 1, a, j, hq, hj, hja, ha, h => by
    refine (send_l4 next i hi r q (a + 1) (j + 1) z3 z3 z3 z3 (by rw [show a + 1 + q = a + (q + 1) by omega]; exact h)).succ 0 fun k _ => ?_
    rw [bus_Send.l4, if_pos z3, if_pos z3, at_D l la hM hok i hi j z3, Option.bind_some, if_pos ((hc i hi).2 j z3), nNx a z3, if_neg z3, nNx j z3]
omit hl8 in
theorem send_l4_full (next : List Int) (i : Nat) (hi : i < l.length) : ∀ q a j, c i - j = q → j ≤ c i → j ≤ a → a ≤ 20000 → 20000 < a + q →
    EvS (fun k => bus_Send.l4 k l la T next (a : Int) (i : Int) (j : Int) l (l.length : Int) (i : Int) (rd_T55 l (i : Int)).f0 (rd_T55 l (i : Int)).f1 (rd_T55 l (i : Int)).f2 (rd_T55 l (i : Int)).f3) (some ([], 8))
  | 0, a, j, hq, hj, hja, ha, h => by omega
  | q + 1, a, j, hq, hj, hja, ha, h => by
    by_cases hf : a = 20000
    · refine EvS.now 0 fun k _ => ?_
      rw [bus_Send.l4, if_pos z3, if_pos z3, at_D l la hM hok i hi j z3, Option.bind_some, if_pos ((hc i hi).2 j z3), nNx a z3, if_pos z3]
    · refine (send_l4_full next i hi q (a + 1) (j + 1) z3 z3 z3 z3 z3).succ 0 fun k _ => ?_
      rw [bus_Send.l4, if_pos z3, if_pos z3, at_D l la hM hok i hi j z3, Option.bind_some, if_pos ((hc i hi).2 j z3), nNx a z3, if_neg z3, nNx j z3]
theorem send_l3 (next : List Int) (r : Option SRes) (hle : sumTo c l.length ≤ 20000) (h : EvS (fun k => bus_Send.l5 k l la T next ((sumTo c l.length : Nat) : Int) [] 0) r) : ∀ q i, i + q = l.length →
    EvS (fun k => bus_Send.l3 k l la T next ((sumTo c i : Nat) : Int) l (l.length : Int) (i : Int)) r
  | 0, i, hq => by
    obtain rfl : i = l.length := by omega
    refine h.succ 0 fun k _ => ?_
    rw [bus_Send.l3, if_neg z3]
  | q + 1, i, hq => by
    have ih := send_l3 next r hle h q (i + 1) z3
    have h1 := sumTo_mono c (i + 1) l.length z3
    have e : sumTo c (i + 1) = sumTo c i + c i := rfl
    have h4 := send_l4 l la T hl8 hM hla hok c hc next i z3 r (c i) (sumTo c i) 0 z3 z3 z3 z3 (by rw [← e]; exact ih)
    refine h4.succ 0 fun k _ => ?_
    rw [bus_Send.l3, if_pos z3, if_pos z3, if_pos z3]
    rfl
theorem send_l3_full (next : List Int) (hgt : 20000 < sumTo c l.length) : ∀ q i, i + q = l.length → sumTo c i ≤ 20000 →
    EvS (fun k => bus_Send.l3 k l la T next ((sumTo c i : Nat) : Int) l (l.length : Int) (i : Int)) (some ([], 8))
  | 0, i, hq, hi => by
    obtain rfl : i = l.length := by omega
    omega
  | q + 1, i, hq, hi => by
    have e : sumTo c (i + 1) = sumTo c i + c i := rfl
    by_cases hs : sumTo c (i + 1) ≤ 20000
    · have ih := send_l3_full next hgt q (i + 1) z3 hs
      have h4 := send_l4 l la T hl8 hM hla hok c hc next i z3 (some ([], 8)) (c i) (sumTo c i) 0 z3 z3 z3 z3 (by rw [← e]; exact ih)
      refine h4.succ 0 fun k _ => ?_
      rw [bus_Send.l3, if_pos z3, if_pos z3, if_pos z3]
      rfl
    · have h4 := send_l4_full l la T hM hla hok c hc next i z3 (c i) (sumTo c i) 0 z3 z3 z3 z3 z3
      refine h4.succ 0 fun k _ => ?_
      rw [bus_Send.l3, if_pos z3, if_pos z3, if_pos z3]
      rfl
end
theorem rd_zero (n i : Nat) : rd (List.replicate n 0) (i : Int) = 0 := by
  show (List.replicate n (0 : Int)).getD i 0 = 0
  rw [List.getD_eq_getElem?_getD, List.getElem?_replicate]
  split <;> rfl
end Go.Proofs.YtbanemecfobonaaDoor.B
