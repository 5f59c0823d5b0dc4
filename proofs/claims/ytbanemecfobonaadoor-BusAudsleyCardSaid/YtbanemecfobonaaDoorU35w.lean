/- Written by a program (lite.py) from my texts. -/
import Derived.Test.YtbanemecfobonaaDoorU34w
namespace Go.Proofs.YtbanemecfobonaaDoor.B
open Go.RowKit Go.Proofs.YtbanemecfobonaaDoorW.PrintWords Go.Proofs.YtbanemecfobonaaDoorW.PrintLast Go.Proofs.YtbanemecfobonaaDoorW.PrintMore
set_option linter.unusedVariables false
set_option linter.unusedSimpArgs false
theorem rd55_putN (l : List S55) (i : Nat) (v : S55) (k : Nat) (hk : k < l.length) : rd_T55 (l.set i v) (k : Int) = if k = i then v else rd_T55 l (k : Int) := by
  show (l.set i v).getD k z55 = if k = i then v else l.getD k z55
  rw [List.getD_eq_getElem?_getD, List.getD_eq_getElem?_getD, List.getElem?_set]
  by_cases e : i = k
  · subst e; rw [if_pos rfl, if_pos hk, if_pos rfl]; rfl
  · rw [if_neg e, if_neg (fun h => e h.symm)]
def oF (order : List Int) (p : Nat) : Nat := (rd order (p : Int)).toNat
def numT (l : List S55) (order : List Int) : Nat → List S55
  | 0 => l
  | p + 1 => (numT l order p).set (oF order p) (⟨(p : Int), (rd_T55 (numT l order p) (rd order (p : Int))).f1, (rd_T55 (numT l order p) (rd order (p : Int))).f2, (rd_T55 (numT l order p) (rd order (p : Int))).f3⟩ : S55)
theorem numT_len (l : List S55) (order : List Int) : ∀ p, (numT l order p).length = l.length
  | 0 => rfl
  | p + 1 => by simp only [numT, List.length_set]; exact numT_len l order p
def RangeO (n : Nat) (order : List Int) (p : Nat) : Prop := ∀ q, p ≤ q → q < order.length → 0 ≤ rd order (q : Int) ∧ rd order (q : Int) < (n : Int)
theorem numbered_l0 (l : List S55) (order : List Int) (hn : order.length ≤ 100) : ∀ d p, order.length - p = d → p ≤ order.length → ∃ m, EvS (fun k => w8_numbered.l0 k l order (numT l order p) (p : Int)) (some m) ∧ (RangeO l.length order p → m = numT l order order.length) ∧ (¬ RangeO l.length order p → m = [])
  | 0, p, hd, hp => by
    obtain rfl : p = order.length := by omega
    exact ⟨_, EvS.now 0 fun k _ => by rw [w8_numbered.l0, if_neg z3], fun _ => rfl, fun h => absurd (fun q a b => by omega) h⟩
  | d + 1, p, hd, hp => by
    have hlen := numT_len l order p
    by_cases c1 : rd order (p : Int) < 0
    · exact ⟨[], EvS.now 0 fun k _ => by rw [w8_numbered.l0, if_pos z3, if_pos z3, if_pos c1], fun h => by have := h p (Nat.le_refl _) z3; omega, fun _ => rfl⟩
    by_cases c2 : rd order (p : Int) ≥ (l.length : Int)
    · exact ⟨[], EvS.now 0 fun k _ => by rw [w8_numbered.l0, if_pos z3, if_pos z3, if_neg c1, if_pos c2], fun h => by have := h p (Nat.le_refl _) z3; omega, fun _ => rfl⟩
    obtain ⟨m, h1, h2, h3⟩ := numbered_l0 l order hn d (p + 1) z3 z3
    refine ⟨m, h1.succ 0 fun k _ => ?_, fun h => h2 (fun q a b => h q z3 b), fun h => h3 (fun g => h (fun q a b => by
      by_cases e : q = p
      · subst e; omega
      · exact g q z3 b))⟩
    rw [w8_numbered.l0, if_pos z3, if_pos z3, if_neg c1, if_neg c2, if_pos z3, if_pos (by rw [hlen]; omega), nNx p z3]
    rfl
def InjO (o : Nat → Nat) (n : Nat) : Prop := ∀ q p, q < p → p < n → o q ≠ o p
def Qh (o : Nat → Nat) : Nat → Nat → Bool
  | 0 => fun _ => true
  | p + 1 => fun t => Qh o p t && t != o p
theorem Qh_iff (o : Nat → Nat) : ∀ p t, Qh o p t = true ↔ ∀ q, q < p → o q ≠ t
  | 0, t => ⟨fun _ q hq => by omega, fun _ => rfl⟩
  | p + 1, t => by
    have ih := Qh_iff o p t
    have e : Qh o (p + 1) t = (Qh o p t && t != o p) := rfl
    rw [e, Bool.and_eq_true, ih]
    constructor
    · rintro ⟨h1, h2⟩ q hq
      by_cases e : q = p
      · subst e; intro h; rw [h] at h2; simp at h2
      · exact h1 q z3
    · intro h
      exact ⟨fun q hq => h q z3, by simp; exact fun e => h p z3 e.symm⟩
theorem Qh_cnt (o : Nat → Nat) (n : Nat) (hr : ∀ p, p < n → o p < n) (hi : InjO o n) : ∀ p, p ≤ n → cntQ (Qh o p) n + p = n
  | 0, _ => by rw [show Qh o 0 = fun _ => true from rfl, cntQ_all]; omega
  | p + 1, hp => by
    have ih := Qh_cnt o n hr hi p z3
    have hd := cntQ_drop (Qh o p) (o p) n
    rw [if_pos ⟨hr p z3, (Qh_iff o p (o p)).mpr fun q hq => hi q p hq z3⟩] at hd
    have e : Qh o (p + 1) = fun t => Qh o p t && t != o p := rfl
    rw [e]; omega
theorem onto (o : Nat → Nat) (n : Nat) (hr : ∀ p, p < n → o p < n) (hi : InjO o n) (t : Nat) (ht : t < n) : ∃ p, p < n ∧ o p = t := by
  have h := Qh_cnt o n hr hi n (Nat.le_refl _)
  have h2 := cntQ_zero (Qh o n) n z3 t ht
  by_cases c : ∃ p, p < n ∧ o p = t
  · exact c
  · exfalso
    have := (Qh_iff o n t).mpr fun q hq he => c ⟨q, hq, he⟩
    rw [h2] at this; cases this
theorem perm_of (o : Nat → Nat) (n : Nat) (hr : ∀ p, p < n → o p < n) (hi : InjO o n) : ∃ pos, Perm n o pos := by
  have each : ∀ t, ∃ p, t < n → p < n ∧ o p = t := fun t => by
    by_cases ht : t < n
    · obtain ⟨p, h⟩ := onto o n hr hi t ht
      exact ⟨p, fun _ => h⟩
    · exact ⟨0, fun h => absurd h ht⟩
  obtain ⟨pos, hpos⟩ := Classical.axiomOfChoice each
  refine ⟨pos, hr, fun t ht => (hpos t ht).1, fun p hp => ?_, fun t ht => (hpos t ht).2⟩
  obtain ⟨h1, h2⟩ := hpos (o p) (hr p hp)
  rcases Nat.lt_trichotomy (pos (o p)) p with h | h | h
  · exact absurd h2 (hi _ p h hp)
  · exact h
  · exact absurd h2.symm (hi p _ h h1)
theorem numT_num (l : List S55) (order : List Int) (hlen : order.length = l.length) (hr : RangeO l.length order 0) (hi : InjO (oF order) l.length) : ∀ s, s ≤ l.length →
    (∀ q, q < s → rd_T55 (numT l order s) (oF order q : Int) = (⟨(q : Int), (rd_T55 l (oF order q : Int)).f1, (rd_T55 l (oF order q : Int)).f2, (rd_T55 l (oF order q : Int)).f3⟩ : S55)) ∧ (∀ t, t < l.length → (∀ q, q < s → oF order q ≠ t) → rd_T55 (numT l order s) (t : Int) = rd_T55 l (t : Int))
  | 0, _ => ⟨fun q hq => by omega, fun t _ _ => rfl⟩
  | s + 1, hs => by
    obtain ⟨h1, h2⟩ := numT_num l order hlen hr hi s z3
    have hL := numT_len l order s
    have hrs := hr s z3 z3
    have es : rd order (s : Int) = (oF order s : Int) := by unfold oF; omega
    have hos : oF order s < l.length := by omega
    have hk := h2 (oF order s) hos (fun q hq => hi q s hq z3)
    constructor
    · intro q hq
      have hrq := hr q z3 z3
      have hoq : oF order q < l.length := by unfold oF; omega
      simp only [numT]
      rw [rd55_putN _ _ _ _ z3]
      by_cases e : q = s
      · subst e
        rw [if_pos rfl, es, hk]
      · rw [if_neg (hi q s z3 z3)]
        exact h1 q z3
    · intro t ht hq
      simp only [numT]
      rw [rd55_putN _ _ _ _ z3, if_neg (fun e => hq s z3 e.symm)]
      exact h2 t ht (fun q hq2 => hq q z3)
theorem numT_NumB (l : List S55) (order : List Int) (hlen : order.length = l.length) (hr : RangeO l.length order 0) (hi : InjO (oF order) l.length) (pos : Nat → Nat) (H : Perm l.length (oF order) pos) : NumB l (numT l order l.length) pos := by
  refine ⟨numT_len l order _, fun t ht => ?_⟩
  have h := (numT_num l order hlen hr hi l.length (Nat.le_refl _)).1 (pos t) (H.plt t ht)
  rw [H.op t ht] at h
  exact h
theorem rlF_rev (o : Nat → Nat) : ∀ p, (rlF o p).reverse = (List.range p).map o
  | 0 => rfl
  | p + 1 => by simp only [rlF, List.reverse_cons, rlF_rev o p, List.range_succ, List.map_append, List.map_cons, List.map_nil]
theorem order_rlF (order : List Int) (h0 : ∀ q, q < order.length → 0 ≤ rd order (q : Int)) : order = (rlF (oF order) order.length).reverse.map (fun i : Nat => (i : Int)) := by
  rw [rlF_rev, List.map_map]
  apply List.ext_getElem
  · simp
  · intro i h1 h2
    have h := h0 i h1
    have e : rd order (i : Int) = order[i] := by
      show order.getD i 0 = _
      rw [List.getD_eq_getElem?_getD, List.getElem?_eq_getElem h1]; rfl
    simp only [List.getElem_map, List.getElem_range, Function.comp, oF]
    rw [← e]; omega
theorem rl_of (order : List Int) (rl : List Nat) (h : order = rl.reverse.map (fun i : Nat => (i : Int))) : rl = rlF (oF order) order.length := by
  have h0 : ∀ q, q < order.length → 0 ≤ rd order (q : Int) := fun q hq => by
    have e : rd order (q : Int) = order[q] := by
      show order.getD q 0 = _
      rw [List.getD_eq_getElem?_getD, List.getElem?_eq_getElem hq]; rfl
    rw [e]
    have : order[q] = ((rl.reverse[q]'(by rw [h] at hq; simpa using hq) : Nat) : Int) := by simp only [h, List.getElem_map]
    rw [this]; omega
  have h2 := order_rlF order h0
  have e : ∀ a b : List Nat, a.map (fun i : Nat => (i : Int)) = b.map (fun i : Nat => (i : Int)) → a = b := by
    intro a
    induction a with
    | nil => intro b hb; cases b with
      | nil => rfl
      | cons x b => simp at hb
    | cons x a ih => intro b hb; cases b with
      | nil => simp at hb
      | cons y b =>
        simp only [List.map_cons, List.cons.injEq] at hb
        rw [ih b hb.2, show x = y by omega]
  have h3 := e _ _ (h.symm.trans h2)
  have h4 := congrArg List.reverse h3
  rwa [List.reverse_reverse, List.reverse_reverse] at h4
theorem good_inj (l : List S55) (lims : List Int) (o : Nat → Nat) : ∀ p (Q : Nat → Bool) (b : Int), GoodOrd l lims (rlF o p) Q b → (∀ q, q < p → o q < l.length ∧ Q (o q) = true) ∧ InjO o p
  | 0, Q, b, h => ⟨fun q hq => by omega, fun q p h1 h2 => by omega⟩
  | p + 1, Q, b, ⟨h1, h2, h3⟩ => by
    obtain ⟨g1, g2⟩ := good_inj l lims o p _ _ h3
    refine ⟨fun q hq => ?_, fun q p' h4 h5 => ?_⟩
    · by_cases e : q = p
      · subst e; exact ⟨h1, canB_Q h2⟩
      · obtain ⟨a, c⟩ := g1 q z3
        simp only [Bool.and_eq_true] at c
        exact ⟨a, c.1⟩
    · by_cases e : p' = p
      · subst e
        obtain ⟨a, c⟩ := g1 q z3
        simp only [Bool.and_eq_true] at c
        intro he
        rw [he] at c
        simp at c
      · exact g2 q p' h4 z3
section
variable (l : List S55) (lims order : List Int) (h8 : l.length ≤ 8) (hlen : order.length = l.length) (hlim : lims.length = l.length)
include h8 hlen
theorem holds_l1 (p : Nat) (hp : p < order.length) (r : Option Bool) (h : EvS (fun k => w8_holds.l0 k l lims order ((p + 1 : Nat) : Int)) r) : ∀ d q, p - q = d → q ≤ p → (∀ s, q ≤ s → s < p → rd order (s : Int) ≠ rd order (p : Int)) → EvS (fun k => w8_holds.l1 k l lims order (p : Int) (q : Int)) r
  | 0, q, hd, hq, hne => by
    obtain rfl : q = p := by omega
    exact h.succ 0 fun k _ => by rw [w8_holds.l1, if_neg z3, nNx q z3]
  | d + 1, q, hd, hq, hne => by
    refine (holds_l1 p hp r h d (q + 1) z3 z3 (fun s a b => hne s z3 b)).succ 0 fun k _ => ?_
    rw [w8_holds.l1, if_pos z3, if_pos z3, if_pos z3, if_pos z3, if_pos z3, if_neg (fun e => hne q z3 z3 e.symm), nNx q z3]
theorem holds_l1_bad (p : Nat) (hp : p < order.length) : ∀ d q, p - q = d → q ≤ p → (∃ s, q ≤ s ∧ s < p ∧ rd order (s : Int) = rd order (p : Int)) → EvS (fun k => w8_holds.l1 k l lims order (p : Int) (q : Int)) (some false)
  | 0, q, hd, hq, ⟨s, h1, h2, h3⟩ => by omega
  | d + 1, q, hd, hq, ⟨s, h1, h2, h3⟩ => by
    by_cases c : rd order (p : Int) = rd order (q : Int)
    · exact EvS.now 0 fun k _ => by rw [w8_holds.l1, if_pos z3, if_pos z3, if_pos z3, if_pos z3, if_pos z3, if_pos c]
    · refine (holds_l1_bad p hp d (q + 1) z3 z3 ⟨s, by
        by_cases e : s = q
        · subst e; exact absurd h3.symm c
        · omega, h2, h3⟩).succ 0 fun k _ => ?_
      rw [w8_holds.l1, if_pos z3, if_pos z3, if_pos z3, if_pos z3, if_pos z3, if_neg c, nNx q z3]
def Diff (order : List Int) (p : Nat) : Prop := ∀ a, p ≤ a → a < order.length → ∀ s, s < a → rd order (s : Int) ≠ rd order (a : Int)
theorem holds_l0 (r : Option Bool) (h : EvS (fun k => (w8_numbered.f k l order).bind fun t => w8_holds.l2 k l lims t 0) r) : ∀ d p, order.length - p = d → p ≤ order.length → Diff order p → EvS (fun k => w8_holds.l0 k l lims order (p : Int)) r
  | 0, p, hd, hp, hD => h.succ 0 fun k _ => by rw [w8_holds.l0, if_neg z3]
  | d + 1, p, hd, hp, hD => by
    have ih := holds_l0 r h d (p + 1) z3 z3 (fun a x y => hD a z3 y)
    refine (holds_l1 l lims order h8 hlen p z3 r ih p 0 z3 z3 (fun s _ b => hD p (Nat.le_refl _) z3 s b)).succ 0 fun k _ => ?_
    rw [w8_holds.l0, if_pos z3]; rfl
theorem holds_l0_bad : ∀ d p, order.length - p = d → p ≤ order.length → ¬ Diff order p → EvS (fun k => w8_holds.l0 k l lims order (p : Int)) (some false)
  | 0, p, hd, hp, hD => absurd (fun a x y => by omega) hD
  | d + 1, p, hd, hp, hD => by
    by_cases c : ∃ s, 0 ≤ s ∧ s < p ∧ rd order (s : Int) = rd order (p : Int)
    · refine (holds_l1_bad l lims order h8 hlen p z3 p 0 z3 z3 c).succ 0 fun k _ => ?_
      rw [w8_holds.l0, if_pos z3]; rfl
    · have ih := holds_l0_bad d (p + 1) z3 z3 (fun g => hD (fun a x y s hs e => by
        by_cases e2 : a = p
        · subst e2; exact c ⟨s, by omega, hs, e⟩
        · exact g a z3 y s hs e))
      refine (holds_l1 l lims order h8 hlen p z3 _ ih p 0 z3 z3 (fun s _ b e => c ⟨s, by omega, b, e⟩)).succ 0 fun k _ => ?_
      rw [w8_holds.l0, if_pos z3]; rfl
omit hlen in
theorem holds_l2 (m : List S55) (hm : m.length = l.length) (hlim : lims.length = l.length) : ∀ d t, m.length - t = d → t ≤ m.length → ∃ b, EvS (fun k => w8_holds.l2 k l lims m (t : Int)) (some b) ∧ (b = true ↔ ∀ s, t ≤ s → s < m.length → (delaySpec m (rd_T55 m (s : Int)).f0).2 = 0 ∧ (delaySpec m (rd_T55 m (s : Int)).f0).1 ≤ rd lims (s : Int))
  | 0, t, hd, ht => ⟨true, EvS.now 0 fun k _ => by
      rw [w8_holds.l2, if_neg z3, hm]; simp, ⟨fun _ s a b => by omega, fun _ => rfl⟩⟩
  | d + 1, t, hd, ht => by
    have hD : bus_Delay.f m (rd_T55 m (t : Int)).f0 = some (delaySpec m (rd_T55 m (t : Int)).f0) := rfl
    by_cases c1 : (delaySpec m (rd_T55 m (t : Int)).f0).2 = 0
    · by_cases c2 : (delaySpec m (rd_T55 m (t : Int)).f0).1 > rd lims (t : Int)
      · refine ⟨false, EvS.now 0 fun k _ => ?_, ⟨fun h => (by cases h), fun h => by have := (h t (Nat.le_refl _) z3).2; omega⟩⟩
        rw [w8_holds.l2, if_pos z3, if_pos z3, hD, Option.bind_some, if_pos c1, if_pos z3, if_pos c2]
      · obtain ⟨b, h1, h2⟩ := holds_l2 m hm hlim d (t + 1) z3 z3
        refine ⟨b, h1.succ 0 fun k _ => ?_, ⟨fun h s x y => ?_, fun h => h2.mpr fun s x y => h s z3 y⟩⟩
        · rw [w8_holds.l2, if_pos z3, if_pos z3, hD, Option.bind_some, if_pos c1, if_pos z3, if_neg c2, nNx t z3]
        · by_cases e : s = t
          · subst e; exact ⟨c1, by omega⟩
          · exact h2.mp h s z3 y
    · refine ⟨false, EvS.now 0 fun k _ => ?_, ⟨fun h => (by cases h), fun h => absurd (h t (Nat.le_refl _) z3).1 c1⟩⟩
      rw [w8_holds.l2, if_pos z3, if_pos z3, hD, Option.bind_some, if_neg c1]
end
theorem holds_val (l : List S55) (lims order : List Int) (hs : sentB l = true) (hlim : lims.length = l.length) :
    ∃ b, EvS (fun k => w8_holds.f k l lims order) (some b) ∧ (b = true ↔ ∃ rl : List Nat, rl.length = l.length ∧ order = rl.reverse.map (fun i : Nat => (i : Int)) ∧ GoodOrd l lims rl (fun _ => true) 0) := by
  (have h8 := (sentB_oks l hs).1); by_cases hlen : order.length = l.length
  case neg => (refine ⟨false, ⟨0, fun k _ => ?_⟩, ⟨fun h => (by cases h), fun ⟨rl, h1, h2, _⟩ => absurd (by rw [h2]; simp [h1]) hlen⟩⟩); (show w8_holds.f k l lims order = _); (unfold w8_holds.f); rw [if_neg z3]
  have start : ∀ b, EvS (fun k => w8_holds.l0 k l lims order ((0 : Nat) : Int)) (some b) → EvS (fun k => w8_holds.f k l lims order) (some b) := fun b h => h.same fun k => by
    show w8_holds.f k l lims order = _
    unfold w8_holds.f
    rw [if_pos z3]; rfl
  have good : ∀ rl : List Nat, rl.length = l.length → order = rl.reverse.map (fun i : Nat => (i : Int)) → GoodOrd l lims rl (fun _ => true) 0 → rl = rlF (oF order) l.length ∧ RangeO l.length order 0 ∧ Diff order 0 := fun rl h1 h2 h3 => by
    have e := rl_of order rl h2
    rw [hlen] at e
    rw [e] at h3
    obtain ⟨g1, g2⟩ := good_inj l lims (oF order) l.length _ _ h3
    have hnn : ∀ q, q < order.length → rd order (q : Int) = (oF order q : Int) := fun q hq => by
      have e1 : rd order (q : Int) = order[q] := by
        show order.getD q 0 = _
        rw [List.getD_eq_getElem?_getD, List.getElem?_eq_getElem hq]; rfl
      have e2 : order[q] = ((rl.reverse[q]'(by rw [h2] at hq; simpa using hq) : Nat) : Int) := by simp only [h2, List.getElem_map]
      have : 0 ≤ rd order (q : Int) := by rw [e1, e2]; omega
      unfold oF; omega
    refine ⟨e, fun q _ hq => ?_, fun a _ ha s hsa he => ?_⟩
    · rw [hnn q hq]
      have := (g1 q z3).1
      omega
    · rw [hnn a ha, hnn s z3] at he
      exact g2 s a hsa z3 z3
  by_cases hD : Diff order 0
  case neg => (refine ⟨false, start _ (holds_l0_bad l lims order h8 hlen order.length 0 z3 z3 hD), ⟨fun h => (by cases h), fun ⟨rl, h1, h2, h3⟩ => absurd (good rl h1 h2 h3).2.2 hD⟩⟩)
  (obtain ⟨m, hm1, hm2, hm3⟩ := numbered_l0 l order z3 order.length 0 z3 z3)
  have hnum : EvS (fun k => w8_numbered.f k l order) (some m) := hm1.same fun k => by
    show w8_numbered.f k l order = _
    unfold w8_numbered.f
    rw [Option.bind_some, if_pos (by simp; omega)]
    rfl
  by_cases hR : RangeO l.length order 0
  case neg =>
   (have e := hm3 hR); subst e
   have hn : 0 < l.length := by
     rcases Nat.eq_zero_or_pos l.length with h | h
     · exact absurd (fun q a b => by omega) hR
     · exact h
   have h2 : EvS (fun k => w8_holds.l2 k l lims [] 0) (some false) := EvS.now 0 fun k _ => by
     rw [w8_holds.l2, if_neg (by simp)]
     simp; omega
   (refine ⟨false, start _ (holds_l0 l lims order h8 hlen _ (hnum.bind (g := fun k t => w8_holds.l2 k l lims t 0) h2) order.length 0 z3 z3 hD), ⟨fun h => (by cases h), fun ⟨rl, h1, h2, h3⟩ => absurd (good rl h1 h2 h3).2.1 hR⟩⟩)
  (have e := hm2 hR); rw [hlen] at e
  have hpos : ∀ p, p < l.length → rd order (p : Int) = (oF order p : Int) ∧ oF order p < l.length := fun p hp => by
    have := hR p z3 z3
    unfold oF; omega
  have hI : InjO (oF order) l.length := fun q p hqp hp he => by
    have := hD p z3 z3 q hqp
    rw [(hpos p hp).1, (hpos q z3).1, he] at this
    exact this rfl
  (obtain ⟨pos, HP⟩ := perm_of (oF order) l.length (fun p hp => (hpos p hp).2) hI); (have N := numT_NumB l order hlen hR hI pos HP); rw [← e] at N; (obtain ⟨b, hb1, hb2⟩ := holds_l2 l lims h8 m N.1 hlim m.length 0 z3 z3); (refine ⟨b, start _ (holds_l0 l lims order h8 hlen _ (hnum.bind (g := fun k t => w8_holds.l2 k l lims t 0) hb1) order.length 0 z3 z3 hD), ?_⟩); rw [hb2]; (have hG := goodAll l lims (oF order) pos HP)
  have each : ∀ p, p < l.length → (((delaySpec m (rd_T55 m (oF order p : Int)).f0).2 = 0 ∧ (delaySpec m (rd_T55 m (oF order p : Int)).f0).1 ≤ rd lims (oF order p : Int)) ↔ canB l lims (fun t => decide (pos t < p + 1)) (behind l pos (p + 1)) (oF order p) = true) := fun p hp => by
    have e0 : (rd_T55 m (oF order p : Int)).f0 = (p : Int) := by rw [N.2 _ (hpos p hp).2, HP.po p hp]
    rw [e0, NumB.delay HP N hs p hp]
    have eQ : decide (pos (oF order p) < p + 1) = true := by rw [HP.po p hp]; simp
    have ec : canB l lims (fun t => decide (pos t < p + 1)) (behind l pos (p + 1)) (oF order p) = (decide (pos (oF order p) < p + 1) && (dlP l (fun t => decide (pos t < p + 1) && t != oF order p) (behind l pos (p + 1)) (oF order p)).2 && decide ((dlP l (fun t => decide (pos t < p + 1) && t != oF order p) (behind l pos (p + 1)) (oF order p)).1 ≤ rd lims (oF order p : Int))) := rfl
    rw [ec, eQ, Bool.true_and, Bool.and_eq_true, decide_eq_true_eq]
    generalize dlP l (fun t => decide (pos t < p + 1) && t != oF order p) (behind l pos (p + 1)) (oF order p) = D
    cases hd : D.2
    · rw [if_pos rfl]
      exact ⟨fun h => absurd h.1 z10, fun h => by cases h.1⟩
    · rw [if_neg z10]
      exact ⟨fun h => ⟨rfl, h.2⟩, fun h => ⟨rfl, h.2⟩⟩
  (have h0 : ∀ q, q < order.length → 0 ≤ rd order (q : Int) := fun q hq => (hR q z3 hq).1); (constructor)
  · intro h; (refine ⟨rlF (oF order) l.length, rlF_len _ _, ?_, hG.mpr fun q hq => (each q hq).mp (h _ z3 (by rw [N.1]; exact (hpos q hq).2))⟩); (have := order_rlF order h0); (rwa [hlen] at this)
  (rintro ⟨rl, h1, h2, h3⟩ s _ hs2); rw [N.1] at hs2; (have e3 := (good rl h1 h2 h3).1); rw [e3] at h3; (have h4 := (each (pos s) (HP.plt s hs2)).mpr (hG.mp h3 (pos s) (HP.plt s hs2))); rw [HP.op s hs2] at h4; (exact h4)
end Go.Proofs.YtbanemecfobonaaDoor.B
