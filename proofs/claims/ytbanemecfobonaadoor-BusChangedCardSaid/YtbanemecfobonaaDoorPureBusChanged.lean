/- BusChanged, plainly: what the walk computes is true. -/
import Derived.Test.YtbanemecfobonaaDoorBLawBusChanged
import Derived.Test.YtbanemecfobonaaDoorU7
namespace Go.Proofs.YtbanemecfobonaaDoor.Pure
set_option linter.unusedVariables false
open Go.RowKit Go.Proofs.YtbanemecfobonaaDoor.B Go.Proofs.YtbanemecfobonaaDoorW.PrintWords Go.Proofs.YtbanemecfobonaaDoorW.PrintLast

/-- From some number of rounds on, a loop answers r. -/
def EvC {α : Type} (f : Nat → Option α) (r : Option α) : Prop := ∃ K, ∀ k, K ≤ k → f k = r
theorem EvC.succ {α : Type} {f g : Nat → Option α} {r : Option α} (h : EvC g r) (K0 : Nat) (hs : ∀ k, K0 ≤ k → f (k + 1) = g k) : EvC f r := by
  obtain ⟨K, hK⟩ := h
  refine ⟨max K K0 + 1, fun k hk => ?_⟩
  obtain ⟨j, rfl⟩ : ∃ j, k = j + 1 := ⟨k - 1, by omega⟩
  rw [hs j (by omega), hK j (by omega)]
theorem EvC.same {α : Type} {f g : Nat → Option α} {r : Option α} (h : EvC g r) (K0 : Nat) (hs : ∀ k, K0 ≤ k → f k = g k) : EvC f r := by
  obtain ⟨K, hK⟩ := h
  exact ⟨max K K0, fun k hk => by rw [hs k (by omega), hK k (by omega)]⟩
theorem EvC.now {α : Type} {f : Nat → Option α} {r : Option α} (K0 : Nat) (hs : ∀ k, K0 ≤ k → f (k + 1) = r) : EvC f r :=
  ⟨K0 + 1, fun k hk => by obtain ⟨j, rfl⟩ : ∃ j, k = j + 1 := ⟨k - 1, by omega⟩; exact hs j (by omega)⟩
theorem nx (i : Nat) (h : i ≤ 1000000000) : wrap64 ((i : Int) + 1) = ((i + 1 : Nat) : Int) := by rw [w64 _ (by omega) (by omega)]; omega
theorem bin_of (l : List Int) (hl : l.length ≤ 200) (hb : ∀ x ∈ l, x = 0 ∨ x = 1) : binB l = true := by
  unfold binB
  rw [decide_eq_true hl, Bool.true_and, Bool.not_eq_eq_eq_not, Bool.not_true, List.any_eq_false]
  intro x hx
  rcases hb x hx with rfl | rfl <;> decide
theorem check_ans (l : List Int) (hl : l.length ≤ 200) (hb : ∀ x ∈ l, x = 0 ∨ x = 1) (k : Nat) (hk : 201 ≤ k) : bus_Check.f k l = some (((chk l : Nat) : Int), 0) := by
  unfold bus_Check.f
  rw [binary_eq, Option.bind_some, bus_check_eq l (by omega) k (by omega), if_pos (bin_of l hl hb)]
  rfl

/-- The places in which the two differ are counted. -/
theorem ch_l1 (p q : List Int) (hpq : p.length = q.length) (hp : p.length ≤ 200) (h2 : 2 ≤ diffs p q) : ∀ (m i c : Nat), p.length - i = m → i ≤ p.length → c + diffs (p.drop i) (q.drop i) = diffs p q → c ≤ i → EvC (fun k => neonwrightlaw08_BusChanged.l1 k p q (c : Int) (i : Int)) (some true)
  | 0, i, c, hm, hi, hc, hci => by
    have e : p.drop i = [] := List.drop_eq_nil_of_le (by omega)
    rw [e] at hc
    have e2 : diffs [] (q.drop i) = 0 := by simp [diffs]
    rw [e2] at hc
    refine EvC.now 0 fun k _ => ?_
    have c1 : ¬ (i : Int) < (p.length : Int) := by omega
    have c2 : (c : Int) ≥ 2 := by omega
    rw [neonwrightlaw08_BusChanged.l1, if_neg c1, if_pos c2]
    rfl
  | m + 1, i, c, hm, hi, hc, hci => by
    have c1 : (i : Int) < (p.length : Int) := by omega
    have c2 : (0 : Int) ≤ (i : Int) := by omega
    have c3 : (i : Int) < (q.length : Int) := by omega
    have f1 : i ≤ 1000000000 := by omega
    have f2 : c ≤ 1000000000 := by omega
    rw [drop_rd p i (by omega), drop_rd q i (by omega), diffs] at hc
    by_cases e : rd p (i : Int) = rd q (i : Int)
    · rw [if_pos e] at hc
      refine EvC.succ (ch_l1 p q hpq hp h2 m (i + 1) c (by omega) (by omega) (by omega) (by omega)) 0 fun k _ => ?_
      rw [neonwrightlaw08_BusChanged.l1, if_pos c1, if_pos c2, if_pos c3, if_pos e, nx i f1]
    · rw [if_neg e] at hc
      refine EvC.succ (ch_l1 p q hpq hp h2 m (i + 1) (c + 1) (by omega) (by omega) (by omega) (by omega)) 0 fun k _ => ?_
      rw [neonwrightlaw08_BusChanged.l1, if_pos c1, if_pos c2, if_pos c3, if_neg e, nx i f1, nx c f2]
section
variable (a b : Int) (la lb : List Int) (hva : vB ⟨a, la⟩ = true) (hvb : vB ⟨b, lb⟩ = true)
include hva hvb
theorem ch_j4 : EvC (fun k => neonwrightlaw08_BusChanged.j4 k (plainS a.toNat la) false a la b lb) (some true) := by
  obtain ⟨a1, a2, a3, a4⟩ := vB_parts _ _ hva
  obtain ⟨b1, b2, b3, b4⟩ := vB_parts _ _ hvb
  have hj5t : EvC (fun k => neonwrightlaw08_BusChanged.j5 k (plainS a.toNat la) true b lb) (some true) := by
    refine EvC.now 0 fun k _ => ?_
    rw [neonwrightlaw08_BusChanged.j5, if_pos rfl]
    rfl
  by_cases hl : la.length = lb.length
  · have c1 : (la.length : Int) = (lb.length : Int) := by omega
    have hj5f : ¬ (a = b ∧ la = lb) → EvC (fun k => neonwrightlaw08_BusChanged.j5 k (plainS a.toNat la) false b lb) (some true) := by
      intro hne
      have h2 := plain_two a.toNat b.toNat la lb (by omega) (by omega) hl a4 b4 (fun e => hne ⟨by omega, e.2⟩)
      have hpl := plainS_length a.toNat la
      have hql := plainS_length b.toNat lb
      refine EvC.succ (ch_l1 (plainS a.toNat la) (plainS b.toNat lb) (by omega) (by omega) h2 _ 0 0 rfl (by omega) (by simp) (by omega)) 400 fun k hk => ?_
      have eP : neonwrightref08_Plain.f k b lb = some (plainS b.toNat lb) := by
        have := ref_Plain_eq b.toNat lb (by omega) b3 b4 k (by omega)
        have e : ((b.toNat : Nat) : Int) = b := by omega
        rwa [e] at this
      rw [neonwrightlaw08_BusChanged.j5, if_neg (by simp), eP, Option.bind_some]
      rfl
    by_cases hno : a = b
    · by_cases hd : la = lb
      · refine EvC.succ hj5t 20 fun k hk => ?_
        have e : neonwrightlaw08_same.f k la lb = some true := by rw [same_eq la lb (by omega) k (by omega), decide_eq_true hd]
        rw [neonwrightlaw08_BusChanged.j4, if_neg (by simp), if_pos c1, if_pos hno, e, Option.bind_some]
      · refine EvC.succ (hj5f (fun e => hd e.2)) 20 fun k hk => ?_
        have e : neonwrightlaw08_same.f k la lb = some false := by rw [same_eq la lb (by omega) k (by omega), decide_eq_false hd]
        rw [neonwrightlaw08_BusChanged.j4, if_neg (by simp), if_pos c1, if_pos hno, e, Option.bind_some]
    · refine EvC.succ (hj5f (fun e => hno e.1)) 0 fun k _ => ?_
      rw [neonwrightlaw08_BusChanged.j4, if_neg (by simp), if_pos c1, if_neg hno]
  · have c1 : ¬ (la.length : Int) = (lb.length : Int) := by omega
    refine EvC.succ hj5t 0 fun k _ => ?_
    rw [neonwrightlaw08_BusChanged.j4, if_neg (by simp), if_neg c1]
end
theorem set_back (p : List Int) (i : Nat) (hi : i < p.length) (x : Int) : (p.set i x).set i (rd p (i : Int)) = p := by
  rw [List.set_set]
  have e : rd p (i : Int) = p[i] := by
    show p.getD i 0 = _
    rw [List.getD_eq_getElem?_getD, List.getElem?_eq_getElem hi]; rfl
  rw [e, List.set_getElem_self]
theorem split_at (p : List Int) (i : Nat) (hi : i < p.length) (y : Int) : ∃ S T, p = S ++ rd p (i : Int) :: T ∧ p.set i y = S ++ y :: T := by
  refine ⟨p.take i, p.drop (i + 1), ?_, ?_⟩
  · rw [← drop_rd p i hi, List.take_append_drop]
  · rw [List.set_eq_take_append_cons_drop, if_pos hi]
section
variable (a b : Int) (la lb : List Int) (hva : vB ⟨a, la⟩ = true) (hvb : vB ⟨b, lb⟩ = true) (x2 : Int) (hx0 : 0 ≤ x2) (hx1 : x2 ≤ 255)
include hva hvb hx0 hx1
theorem ch_l0_end : EvC (fun k => neonwrightlaw08_BusChanged.l0 k x2 (plainS a.toNat la) (((19 + 8 * la.length : Nat)) : Int) ((chk (headS a.toNat la) : Nat) : Int) ((15 : Nat) : Int) a la b lb) (some true) := by
  obtain ⟨a1, a2, a3, a4⟩ := vB_parts _ _ hva
  have hpl := plainS_length a.toNat la
  have hpb := plainS_bit a.toNat la
  have hj4 := ch_j4 a b la lb hva hvb
  obtain ⟨w, hw⟩ : ∃ w : Nat, x2 = (w : Int) := ⟨x2.toNat, by omega⟩
  have hlpos : 0 < (plainS a.toNat la).length := by omega
  have hi := Nat.mod_lt w hlpos
  have hc0 := chk_plain a.toNat la
  generalize plainS a.toNat la = p at *
  generalize hidx : w % p.length = i at hi
  have ei : Int.tmod (wrap64 x2) (p.length : Int) = ((i : Nat) : Int) := by
    rw [w64 _ (by omega) (by omega), hw, Int.tmod_eq_emod_of_nonneg (by omega), ← hidx, Int.natCast_emod]
  have hb1 : rd p (i : Int) = 0 ∨ rd p (i : Int) = 1 := by
    have : rd p (i : Int) = p[i] := by
      show p.getD i 0 = _
      rw [List.getD_eq_getElem?_getD, List.getElem?_eq_getElem hi]; rfl
    rw [this]; exact hpb _ (List.getElem_mem hi)
  have ew : wrap64 (1 - rd p (i : Int)) = 1 - rd p (i : Int) := w64 _ (by omega) (by omega)
  obtain ⟨S, T, e1, e2⟩ := split_at p i hi (1 - rd p (i : Int))
  have hby : 1 - rd p (i : Int) = 0 ∨ 1 - rd p (i : Int) = 1 := by omega
  have hy : ∀ z ∈ p.set i (1 - rd p (i : Int)), z = 0 ∨ z = 1 := fun z hz => by
    rcases List.mem_or_eq_of_mem_set hz with h | h
    · exact hpb z h
    · rw [h]; exact hby
  have hne : chk (p.set i (1 - rd p (i : Int))) ≠ 0 := by
    rw [e2, ← hc0]
    have h3 : chk p = chk (S ++ rd p (i : Int) :: T) := congrArg chk e1
    rw [h3]
    have bS : ∀ z ∈ S, z = 0 ∨ z = 1 := fun z hz => hpb z (by rw [e1]; simp [hz])
    have bT : ∀ z ∈ T, z = 0 ∨ z = 1 := fun z hz => hpb z (by rw [e1]; simp [hz])
    exact chk_one S T _ _ bS bT hby hb1 (by omega)
  have hrd : rd (p.set i (1 - rd p (i : Int))) (i : Int) = 1 - rd p (i : Int) := by
    show (p.set i _).getD i 0 = _
    rw [List.getD_eq_getElem?_getD, List.getElem?_set_self hi]; rfl
  have ew2 : wrap64 (1 - (1 - rd p (i : Int))) = rd p (i : Int) := by rw [w64 _ (by omega) (by omega)]; omega
  have hback := set_back p i hi (1 - rd p (i : Int))
  have hchk : ∀ k, 300 ≤ k → bus_Check.f k (p.set i (1 - rd p (i : Int))) = some (((chk (p.set i (1 - rd p (i : Int))) : Nat) : Int), 0) := fun k hk => check_ans _ (by rw [List.length_set]; omega) hy k (by omega)
  have en : (((chk (p.set i (1 - rd p (i : Int))) : Nat) : Int) == 0) = false := by
    have : ((chk (p.set i (1 - rd p (i : Int))) : Nat) : Int) ≠ 0 := by omega
    simpa using this
  have c1 : ¬ ((15 : Nat) : Int) < 15 := by omega
  have c2 : ¬ (p.length : Int) = 0 := by omega
  have c3 : (0 : Int) ≤ ((i : Nat) : Int) := by omega
  have c4 : ((i : Nat) : Int) < (p.length : Int) := by omega
  refine EvC.succ hj4 300 fun k hk => ?_
  rw [neonwrightlaw08_BusChanged.l0, if_neg c1, if_neg c2, ei, if_pos c3, if_pos c4, Option.bind_some, Int.toNat_natCast, ew, hchk k hk, Option.bind_some, hrd, ew2, hback, Option.bind_some, if_pos rfl, en]
theorem ch_l0 : ∀ (m j : Nat), 15 - j = m → j ≤ 15 → EvC (fun k => neonwrightlaw08_BusChanged.l0 k x2 (plainS a.toNat la) (((19 + 8 * la.length : Nat)) : Int) ((chk (headS a.toNat la) : Nat) : Int) (j : Int) a la b lb) (some true)
  | 0, j, hm, hj => by
    obtain rfl : j = 15 := by omega
    exact ch_l0_end a b la lb hva hvb x2 hx0 hx1
  | m + 1, j, hm, hj => by
    obtain ⟨a1, a2, a3, a4⟩ := vB_parts _ _ hva
    have hpl := plainS_length a.toNat la
    have ih := ch_l0 m (j + 1) (by omega) (by omega)
    have hhl := headS_length a.toNat la
    have hc := chk_lt (headS a.toNat la)
    have wrd : ∀ (n M t : Nat), t < M → rd (wrN n M) (t : Int) = ((n / 2 ^ (M - 1 - t) % 2 : Nat) : Int) := by
      intro n M
      induction M with
      | zero => intro t ht; omega
      | succ M ih =>
        intro t ht
        cases t with
        | zero => rfl
        | succ t =>
          have := ih t (by omega)
          have e : M + 1 - 1 - (t + 1) = M - 1 - t := by omega
          rw [e, ← this]
          rfl
    have hrd : rd (plainS a.toNat la) ((19 + 8 * la.length + j : Nat) : Int) = ((chk (headS a.toNat la) / 2 ^ (14 - j) % 2 : Nat) : Int) := by
      have h1 := wrd (chk (headS a.toNat la)) 15 j (by omega)
      have e : 15 - 1 - j = 14 - j := by omega
      rw [e] at h1
      rw [← h1]
      show (plainS a.toNat la).getD (19 + 8 * la.length + j) 0 = (wrN _ 15).getD j 0
      rw [List.getD_eq_getElem?_getD, List.getD_eq_getElem?_getD, plainS, List.getElem?_append_right (by omega)]
      congr 2
      omega
    have es : Int.tmod (shr .i64 ((chk (headS a.toNat la) : Nat) : Int) ((14 - j : Nat) : Int)) 2 = ((chk (headS a.toNat la) / 2 ^ (14 - j) % 2 : Nat) : Int) := by
      rw [shr_nat _ _ hc (by omega), Int.tmod_eq_emod_of_nonneg (Int.natCast_nonneg _)]
      generalize chk (headS a.toNat la) / 2 ^ (14 - j) = q
      omega
    have c1 : (j : Int) < 15 := by omega
    have c2 : (0 : Int) ≤ ((14 - j : Nat) : Int) := by omega
    have c3 : (0 : Int) ≤ ((19 + 8 * la.length + j : Nat) : Int) := by omega
    have c4 : ((19 + 8 * la.length + j : Nat) : Int) < ((plainS a.toNat la).length : Int) := by omega
    have f1 : j ≤ 1000000000 := by omega
    have e1 : wrap64 (14 - (j : Int)) = ((14 - j : Nat) : Int) := by rw [w64 _ (by omega) (by omega)]; omega
    have e2 : wrap64 (((19 + 8 * la.length : Nat) : Int) + (j : Int)) = ((19 + 8 * la.length + j : Nat) : Int) := by clear e1; rw [w64 _ (by omega) (by omega)]; omega
    refine EvC.succ ih 0 fun k _ => ?_
    rw [neonwrightlaw08_BusChanged.l0, if_pos c1, e1, if_pos c2, e2, if_pos c3, if_pos c4, es, hrd, if_pos rfl, nx j f1]
theorem ch_j0 : EvC (fun k => neonwrightlaw08_BusChanged.j0 k x2 false a la b lb) (some true) := by
  obtain ⟨a1, a2, a3, a4⟩ := vB_parts _ _ hva
  have hpl := plainS_length a.toNat la
  have hhl := headS_length a.toNat la
  have hpb := plainS_bit a.toNat la
  have hcl := chk_lt (headS a.toNat la)
  have ht : (plainS a.toNat la).take (19 + 8 * la.length) = headS a.toNat la := by
    rw [plainS, ← hhl, List.take_left]
  have h2 : EvC (fun k => neonwrightlaw08_BusChanged.j2 k x2 (plainS a.toNat la) (((19 + 8 * la.length : Nat)) : Int) ((chk (headS a.toNat la) : Nat) : Int) false a la b lb) (some true) := by
    refine EvC.succ (ch_l0 a b la lb hva hvb x2 hx0 hx1 15 0 rfl (by omega)) 0 fun k _ => ?_
    rw [neonwrightlaw08_BusChanged.j2, if_neg (by simp)]
    rfl
  have h1 : EvC (fun k => neonwrightlaw08_BusChanged.j1 k x2 (plainS a.toNat la) false a la b lb) (some true) := by
    refine EvC.succ h2 300 fun k hk => ?_
    have e : wrap64 (((plainS a.toNat la).length : Int) - 15) = ((19 + 8 * la.length : Nat) : Int) := by rw [w64 _ (by omega) (by omega)]; omega
    have c1 : (0 : Int) ≤ ((19 + 8 * la.length : Nat) : Int) := by omega
    have c2 : ((19 + 8 * la.length : Nat) : Int) ≤ ((plainS a.toNat la).length : Int) := by omega
    have c3 : ¬ ((chk (headS a.toNat la) : Nat) : Int) < 0 := by omega
    have c4 : ¬ ((chk (headS a.toNat la) : Nat) : Int) ≥ 32768 := by omega
    have eC := check_ans (headS a.toNat la) (by omega) (headS_bit a.toNat la) k (by omega)
    rw [neonwrightlaw08_BusChanged.j1, if_neg (by simp), e, if_pos c1, if_pos c2, Int.toNat_natCast, ht, eC, Option.bind_some, if_pos rfl, if_neg c3, decide_eq_false c4]
  refine EvC.succ h1 400 fun k hk => ?_
  have eP : neonwrightref08_Plain.f k a la = some (plainS a.toNat la) := by
    have := ref_Plain_eq a.toNat la (by omega) a3 a4 k (by omega)
    have e : ((a.toNat : Nat) : Int) = a := by omega
    rwa [e] at this
  have eC := check_ans (plainS a.toNat la) (by omega) hpb k (by omega)
  rw [chk_plain] at eC
  rw [neonwrightlaw08_BusChanged.j0, if_neg (by simp), eP, Option.bind_some, eC, Option.bind_some, if_pos rfl]
  rfl
end
theorem frame_ev (a : Int) (l : List Int) (hl : l.length ≤ maxLen) : EvC (fun k => neonwrightref08_Frame.f k a l) (some (vB ⟨a, l⟩)) := by
  by_cases h : l.length ≤ 1000
  · exact ⟨2000, fun k hk => Frame_eq a l h k (by omega)⟩
  · have hv : vB ⟨a, l⟩ = false := by
      rw [vB_mk]
      have : decide (l.length ≤ 8) = false := decide_eq_false (by omega)
      rw [this]; simp
    rw [hv]
    refine EvC.now 0 fun k _ => ?_
    show neonwrightref08_Frame.f (k + 1) a l = some false
    unfold neonwrightref08_Frame.f
    by_cases h1 : a < 0
    · rw [if_pos h1, neonwrightref08_Frame.j0, if_pos rfl]
    · rw [if_neg h1]
      by_cases h2 : a > 2047
      · rw [if_pos h2, neonwrightref08_Frame.j0, if_pos rfl]
      · have h3 : (l.length : Int) > 8 := by omega
        rw [if_neg h2, decide_eq_true h3, neonwrightref08_Frame.j0, if_pos rfl]
theorem BusChanged (a b : Int) (la lb : List Int) (x2 : Int) (ha : la.length ≤ maxLen) (hb : lb.length ≤ maxLen) (hx0 : 0 ≤ x2) (hx1 : x2 ≤ 255) : ∃ k, neonwrightlaw08_BusChanged.f k a la b lb x2 = some true := by
  obtain ⟨K1, hK1⟩ := frame_ev a la ha
  obtain ⟨K2, hK2⟩ := frame_ev b lb hb
  have hj0t : ∀ k, neonwrightlaw08_BusChanged.j0 (k + 1) x2 true a la b lb = some true := fun k => by
    rw [neonwrightlaw08_BusChanged.j0, if_pos rfl]
    rfl
  by_cases hva : vB ⟨a, la⟩ = true
  · by_cases hvb : vB ⟨b, lb⟩ = true
    · obtain ⟨K3, hK3⟩ := ch_j0 a b la lb hva hvb x2 hx0 hx1
      refine ⟨max K1 (max K2 K3), ?_⟩
      have h1 : neonwrightref08_Frame.f (max K1 (max K2 K3)) a la = some (vB ⟨a, la⟩) := hK1 _ (by omega)
      have h2 : neonwrightref08_Frame.f (max K1 (max K2 K3)) b lb = some (vB ⟨b, lb⟩) := hK2 _ (by omega)
      have h3 : neonwrightlaw08_BusChanged.j0 (max K1 (max K2 K3)) x2 false a la b lb = some true := hK3 _ (by omega)
      unfold neonwrightlaw08_BusChanged.f
      rw [h1, Option.bind_some, if_pos hva, h2, Option.bind_some, hvb]
      exact h3
    · refine ⟨max K1 K2 + 1, ?_⟩
      have h1 : neonwrightref08_Frame.f (max K1 K2 + 1) a la = some (vB ⟨a, la⟩) := hK1 _ (by omega)
      have h2 : neonwrightref08_Frame.f (max K1 K2 + 1) b lb = some (vB ⟨b, lb⟩) := hK2 _ (by omega)
      have hvb' : vB ⟨b, lb⟩ = false := by simpa using hvb
      unfold neonwrightlaw08_BusChanged.f
      rw [h1, Option.bind_some, if_pos hva, h2, Option.bind_some, hvb']
      exact hj0t _
  · refine ⟨max K1 K2 + 1, ?_⟩
    have h1 : neonwrightref08_Frame.f (max K1 K2 + 1) a la = some (vB ⟨a, la⟩) := hK1 _ (by omega)
    unfold neonwrightlaw08_BusChanged.f
    rw [h1, Option.bind_some, if_neg hva]
    exact hj0t _
end Go.Proofs.YtbanemecfobonaaDoor.Pure
