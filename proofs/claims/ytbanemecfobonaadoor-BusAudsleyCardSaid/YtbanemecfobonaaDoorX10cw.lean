/- Written by a program (lite.py) from my texts. -/
import Derived.Test.YtbanemecfobonaaDoorX10bw
import Derived.Test.YtbanemecfobonaaDoorX10zw
namespace Go.Proofs.YtbanemecfobonaaDoor.B
open Go.RowKit Go.Proofs.YtbanemecfobonaaDoorW.PrintWords Go.Proofs.YtbanemecfobonaaDoorW.PrintLast Go.Proofs.YtbanemecfobonaaDoorW.PrintMore
set_option linter.unusedVariables false
set_option linter.unusedSimpArgs false
def selN (Q : Nat → Bool) (n : Nat) : List Nat := (List.range n).filter Q
def selI (Q : Nat → Bool) (n : Nat) : List Int := (selN Q n).map (fun t : Nat => (t : Int))
theorem selL_filter (l : List S55) (P : Nat → Bool) : ∀ n, selL l P n = (selN P n).map (fun t : Nat => rd_T55 l (t : Int))
  | 0 => rfl
  | n + 1 => by
    have ih := selL_filter l P n
    simp only [selL, selN, List.range_succ, List.filter_append, List.map_append] at ih ⊢
    rw [ih]
    by_cases c : P n = true
    · rw [if_pos c]; simp [c]
    · rw [if_neg c]; simp [c]
theorem rd_at (L : List Int) (k : Nat) (h : k < L.length) : rd L (k : Int) = L[k] := by
  show L.getD (Int.toNat (k : Int)) 0 = L[k]
  rw [Int.toNat_natCast]
  simp [List.getD, h]
theorem winO_filter (l : List S55) (left : List Int) (x : Int) : ∀ n, n ≤ left.length → winO l left x n = ((left.take n).filter (fun y => y != x)).map (fun y => rd_T55 l y)
  | 0, _ => rfl
  | n + 1, h => by
    have ih := winO_filter l left x n z3
    have e : left.take (n + 1) = left.take n ++ [left[n]] := List.take_succ_eq_append_getElem z3
    simp only [winO]
    rw [ih, e, rd_at left n z3, List.filter_append, List.map_append]
    by_cases c : left[n] = x
    · rw [if_pos c]; simp [c]
    · rw [if_neg c]; simp [c]
theorem winO_sel (l : List S55) (Q : Nat → Bool) (n i : Nat) : winO l (selI Q n) (i : Int) (selI Q n).length = selL l (fun t => Q t && t != i) n := by
  rw [winO_filter l _ _ _ (Nat.le_refl _), List.take_length, selL_filter]
  unfold selI selN
  rw [List.filter_map, List.map_map, List.filter_filter]
  congr 1
  refine List.filter_congr (fun t ht => ?_)
  show ((t : Int) != (i : Int) && Q t) = (Q t && t != i)
  have : ((t : Int) != (i : Int)) = (t != i) := by
    rw [Bool.eq_iff_iff, bne_iff_ne, bne_iff_ne]
    omega
  rw [this, Bool.and_comm]
theorem selI_len (Q : Nat → Bool) (n : Nat) : (selI Q n).length ≤ n := by
  unfold selI selN
  rw [List.length_map]
  exact Nat.le_trans (List.length_filter_le _ _) (by simp)
theorem selI_rd (Q : Nat → Bool) (n k : Nat) (h : k < (selI Q n).length) : ∃ t : Nat, rd (selI Q n) (k : Int) = (t : Int) ∧ t < n ∧ Q t = true ∧ ∃ h' : k < (selN Q n).length, (selN Q n)[k] = t := by
  have h' : k < (selN Q n).length := by unfold selI at h; rw [List.length_map] at h; exact h
  refine ⟨(selN Q n)[k], ?_, ?_, ?_, h', rfl⟩
  · rw [rd_at _ _ h]; simp [selI]
  · have := List.getElem_mem h'
    unfold selN at this
    rw [List.mem_filter, List.mem_range] at this
    exact this.1
  · have := List.getElem_mem h'
    unfold selN at this
    rw [List.mem_filter, List.mem_range] at this
    exact this.2
theorem selI_mem (Q : Nat → Bool) (n t : Nat) (h : t < n) (hq : Q t = true) : ∃ k, k < (selI Q n).length ∧ rd (selI Q n) (k : Int) = (t : Int) := by
  have hm : (t : Int) ∈ selI Q n := by
    unfold selI selN
    rw [List.mem_map]
    exact ⟨t, by rw [List.mem_filter, List.mem_range]; exact ⟨h, hq⟩, rfl⟩
  obtain ⟨k, hk, e⟩ := List.getElem_of_mem hm
  exact ⟨k, hk, by rw [rd_at _ _ hk]; exact e⟩
theorem selN_lt (Q : Nat → Bool) (n : Nat) : List.Pairwise (· < ·) (selN Q n) := List.Pairwise.filter _ List.pairwise_lt_range
theorem selI_lt (Q : Nat → Bool) (n a b : Nat) (h : a < b) (hb : b < (selI Q n).length) : rd (selI Q n) (a : Int) < rd (selI Q n) (b : Int) := by
  obtain ⟨s, e1, _, _, h1, e3⟩ := selI_rd Q n a z3
  obtain ⟨t, e2, _, _, h2, e4⟩ := selI_rd Q n b hb
  have := List.pairwise_iff_getElem.1 (selN_lt Q n) a b h1 h2 h
  rw [e1, e2]
  omega
theorem idxB_spec (c : Nat → Bool) : ∀ n i, (idxB c n i = -1 ∧ ∀ t, i ≤ t → t < i + n → c t = false) ∨ ∃ t : Nat, idxB c n i = (t : Int) ∧ i ≤ t ∧ t < i + n ∧ c t = true ∧ ∀ s, i ≤ s → s < t → c s = false
  | 0, i => .inl ⟨rfl, fun t h1 h2 => by omega⟩
  | n + 1, i => by
    simp only [idxB]
    by_cases h : c i = true
    · rw [if_pos h]; exact .inr ⟨i, rfl, Nat.le_refl _, by omega, h, fun s h1 h2 => by omega⟩
    · rw [if_neg h]
      have h' : c i = false := by simpa using h
      rcases idxB_spec c n (i + 1) with ⟨h1, h2⟩ | ⟨t, h1, h2, h3, h4, h5⟩
      · refine .inl ⟨h1, fun t h3 h4 => ?_⟩
        by_cases e : t = i
        · subst e; exact h'
        · exact h2 t z3 z3
      · refine .inr ⟨t, h1, by omega, by omega, h4, fun s h6 h7 => ?_⟩
        by_cases e : s = i
        · subst e; exact h'
        · exact h5 s z3 h7
theorem sel_find (Q F : Nat → Bool) (n : Nat) (c : Nat → Bool) (hF : ∀ t, F t = true → Q t = true) (hc : ∀ k t : Nat, k < (selI Q n).length → rd (selI Q n) (k : Int) = (t : Int) → c k = F t) :
    (idxB c (selI Q n).length 0 = -1 ∧ firstP F n 0 = none) ∨ ∃ k t : Nat, k < (selI Q n).length ∧ idxB c (selI Q n).length 0 = (k : Int) ∧ rd (selI Q n) (k : Int) = (t : Int) ∧ t < n ∧ firstP F n 0 = some t := by
  (rcases idxB_spec c (selI Q n).length 0 with ⟨h1, h2⟩ | ⟨k, h1, _, h3, h4, h5⟩)
  · (rcases firstP_spec F n 0 with ⟨g1, g2⟩ | ⟨t, g1, _, g3, g4, g5⟩)
    · (exact .inl ⟨h1, g1⟩)
    (obtain ⟨j, hj, ej⟩ := selI_mem Q n t z3 (hF t g4)); (have := h2 j z3 z3); rw [hc j t hj ej, g4] at this; cases this
  (have hk : k < (selI Q n).length := by omega); (obtain ⟨s, e1, hs, _, _⟩ := selI_rd Q n k hk); (have hcs := hc k s hk e1); rw [h4] at hcs; (rcases firstP_spec F n 0 with ⟨g1, g2⟩ | ⟨t, g1, _, g3, g4, g5⟩)
  · (have := g2 s z3 z3); rw [← hcs] at this; cases this
  (obtain ⟨j, hj, ej⟩ := selI_mem Q n t z3 (hF t g4))
  have hjk : j = k := by
    rcases Nat.lt_trichotomy j k with h | h | h
    · have := h5 j z3 h
      rw [hc j t hj ej, g4] at this; cases this
    · exact h
    · have hlt := selI_lt Q n k j h hj
      rw [e1, ej] at hlt
      have := g5 s z3 z3
      rw [← hcs] at this; cases this
  subst hjk; (exact .inr ⟨j, t, hk, h1, ej, by omega, g1⟩)
theorem erase_at : ∀ (L : List Nat) (k : Nat) (h : k < L.length), List.Pairwise (· < ·) L → L.take k ++ L.drop (k + 1) = L.filter (fun t => t != L[k])
  | [], k, h, _ => by simp at h
  | a :: r, 0, h, hp => by
    have h1 := (List.pairwise_cons.1 hp).1
    have : r.filter (fun t => t != a) = r := List.filter_eq_self.2 (fun t ht => by
      have := h1 t ht
      have : t ≠ a := by omega
      simpa using this)
    simp [this]
  | a :: r, k + 1, h, hp => by
    obtain ⟨h1, h2⟩ := List.pairwise_cons.1 hp
    have hk : k < r.length := by simpa using h
    have ih := erase_at r k hk h2
    have hne : a ≠ r[k] := by
      have := h1 _ (List.getElem_mem hk)
      omega
    simp only [List.take_succ_cons, List.drop_succ_cons, List.cons_append, List.getElem_cons_succ]
    rw [ih, List.filter_cons_of_pos (by simpa using hne)]
theorem selI_del (Q : Nat → Bool) (n k t : Nat) (h : k < (selI Q n).length) (e : rd (selI Q n) (k : Int) = (t : Int)) : (selI Q n).take k ++ (selI Q n).drop (k + 1) = selI (fun s => Q s && s != t) n := by
  obtain ⟨s, e1, _, _, h', e2⟩ := selI_rd Q n k h
  have est : s = t := by omega
  subst est
  have := erase_at (selN Q n) k h' (selN_lt Q n)
  unfold selI
  rw [← List.map_take, ← List.map_drop, ← List.map_append, this, e2]
  unfold selN
  rw [List.filter_filter]
  congr 1
  refine List.filter_congr (fun x _ => ?_)
  rw [Bool.and_comm]
theorem selI_all (n : Nat) : selI (fun _ => true) n = (List.range n).map (fun t : Nat => (t : Int)) := by
  unfold selI selN
  rw [List.filter_eq_self.2 (fun _ _ => rfl)]
theorem selI_snoc (n : Nat) : selI (fun _ => true) (n + 1) = selI (fun _ => true) n ++ [(n : Int)] := by
  rw [selI_all, selI_all, List.range_succ, List.map_append]; rfl
theorem selI_all_len (n : Nat) : (selI (fun _ => true) n).length = n := by rw [selI_all]; simp
theorem lastB_canB (l : List S55) (lims : List Int) (Q : Nat → Bool) (lose : List S55) (i : Nat) (h : Q i = true) : lastB l lims (selI Q l.length) lose i = canB l lims Q (maxTo lose lose.length) i := by
  unfold lastB canB dlP
  rw [winO_sel, h, Bool.true_and]
theorem Delete_R {w : World} {base : Nat} {ok : Nat → Prop} {v : Value} {xs : List Int} (h : Kd.R (Kd.int .i64) 3 w base ok v xs) (k : Nat) (hk : k < xs.length) :
    Calls Tryd.prog 84 #[v, .int .i64 (k : Int), .int .i64 ((k : Int) + 1)] w fun e w' => ∃ v', e = .returned v' ∧ v'.ownBlock = v.ownBlock ∧ Kd.R (Kd.int .i64) 3 w' base ok v' (xs.take k ++ xs.drop (k + 1)) ∧ w.grownBy w' v.ownBlock := by
  (have ho := Kd.own_of_R h); have hok := h.1; (rcases ho.2 with ⟨_, h0⟩ | ⟨g, cap, cur, rfl, hg, hh, hle, hcap, hsz, htk⟩)
  · omega
  rw [Nat.mul_one] at htk hsz
  have hcell : ∀ j, j < xs.length → w.cell? ⟨g, 0 + j, none⟩ = some (.int .i64 (xs.getD j 0)) := by
    intro j hj
    rw [Nat.zero_add, blk_cell hh, ← Array.getElem?_toList]
    have : cur.toList[j]? = (cur.toList.take xs.length)[j]? := by rw [List.getElem?_take, if_pos hj]
    rw [this, htk]
    simp [encs, List.getD, hj]
  (have hfr : ∀ j, j < xs.length → w.frozen? ⟨g, 0 + j, none⟩ = false := fun j _ => blk_frozen hh _); (have hc := Tryd.slices_Delete_int_cells g 0 xs.length cap k (k + 1) xs w (Nat.le_refl _) hle hcap z3 z3 hcell hfr); (have e1 : ((k + 1 : Nat) : Int) = (k : Int) + 1 := by omega); rw [e1] at hc; (refine hc.mono ?_); (rintro e w' ⟨rfl, q, rfl⟩); (have hl1 : (xs.take k ++ xs.drop (k + 1)).length = xs.length - 1 := by simp; omega); (refine ⟨_, rfl, rfl, ?_, ?_⟩); rotate_left
  · (obtain ⟨b1, b2, b3, b4⟩ := setCells_same g (((xs.take xs.length).take k ++ (xs.take xs.length).drop (k + 1) ++ List.replicate (k + 1 - k) 0).map (Value.int .i64)) 0 (w.drewN q)); (refine ⟨b1, b2, b3, Nat.le_of_eq b4.symm, fun j hj hne => ?_⟩); rw [setCells_far _ _ j (by rintro rfl; exact hne rfl)]; rfl
  (have hh2 : (w.drewN q).heap[g]? = some (.cells cur 3 (0, 0)) := hh); (have hrow := setCells_row (((xs.take xs.length).take k ++ (xs.take xs.length).drop (k + 1) ++ List.replicate (k + 1 - k) 0).map (Value.int .i64)) 0 (w.drewN q) cur hh2 (by simp; omega)); obtain ⟨cur', a1, a2, a3⟩ := hrow; (have hs1 : xs.length - (k + 1 - k) = (xs.take k ++ xs.drop (k + 1)).length := by rw [hl1]; omega); rw [hs1]; (refine Kd.R_of_own ⟨by simp [encs], .inr ⟨g, cap, cur', rfl, hg, a1, by rw [hl1]; omega, hcap, by rw [Nat.mul_one, a2]; exact hsz, ?_⟩⟩ hok); rw [a3, Nat.mul_one, List.take_zero, List.nil_append, List.map_append, List.append_assoc, List.take_length]; rw [List.take_append_of_le_length (by rw [List.length_map]; exact Nat.le_refl _)]; rw [List.take_of_length_le (by rw [List.length_map]; exact Nat.le_refl _)]; rfl
end Go.Proofs.YtbanemecfobonaaDoor.B
