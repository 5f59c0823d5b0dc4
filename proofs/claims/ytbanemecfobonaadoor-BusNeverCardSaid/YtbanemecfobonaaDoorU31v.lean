/- Written by a program (lite.py) from my texts. -/
import Derived.Test.YtbanemecfobonaaDoorU30v
namespace Go.Proofs.YtbanemecfobonaaDoor.B
open Go.RowKit Go.Proofs.YtbanemecfobonaaDoorW.PrintWords Go.Proofs.YtbanemecfobonaaDoorW.PrintLast Go.Proofs.YtbanemecfobonaaDoorW.PrintMore
set_option linter.unusedVariables false
set_option linter.unusedSimpArgs false
theorem longV_eq {x : S55} (h : okM x = true) : longV x.f1 = bitsM x := by
  obtain ⟨_, _, h1, h2, _⟩ := okM_bounds h
  unfold longV bitsM
  rw [w64s (8 * x.f1) z3 z3, w64s (33 + 8 * x.f1) z3 z3, w64s (47 + 8 * x.f1) z3 z3, Int.tdiv_eq_ediv_of_nonneg z3, w64s ((33 + 8 * x.f1) / 4) z3 z3, w64s _ z3 z3]
theorem rd74_app (l : List S74) (x : S74) (i : Nat) : rd_T74 (l ++ [x]) (i : Int) = if i = l.length then x else rd_T74 l (i : Int) := by
  show (l ++ [x]).getD i z74 = if i = l.length then x else l.getD i z74
  rw [List.getD_eq_getElem?_getD, List.getD_eq_getElem?_getD]
  by_cases h : i = l.length
  · subst h; simp
  · rw [if_neg h]
    by_cases h2 : i < l.length
    · rw [List.getElem?_append_left h2]
    · rw [List.getElem?_eq_none (by simp; omega), List.getElem?_eq_none z3]
section
variable (l : List S55) (la : List (List Int)) (T : Int)
def scanInv2 (g : Nat → Nat) (now : Int) (i : Nat) (b f : Int) : Prop :=
  (f = -1 ∧ (∀ t, t < i → T ≤ dD l la t (g t)) ∨ 0 ≤ f ∧ (∃ t, t < i ∧ dD l la t (g t) < T ∧ dD l la t (g t) = f) ∧ ∀ t, t < i → dD l la t (g t) < T → f ≤ dD l la t (g t)) ∧
  (b = -1 ∧ (∀ t, t < i → dD l la t (g t) < T → now < dD l la t (g t)) ∨ ∃ bn : Nat, b = (bn : Int) ∧ bn < i ∧ dD l la bn (g bn) < T ∧ dD l la bn (g bn) ≤ now ∧ ∀ t, t < i → dD l la t (g t) < T → dD l la t (g t) ≤ now → (rd_T55 l (bn : Int)).f0 ≤ (rd_T55 l (t : Int)).f0)
theorem scan_inv2 (g : Nat → Nat) (now : Int) (hD : ∀ t, t < l.length → 0 ≤ dD l la t (g t)) : ∀ q i b f, i + q = l.length → scanInv2 l la T g now i b f → scanInv2 l la T g now l.length (scanF l la T g now q i b f).1 (scanF l la T g now q i b f).2
  | 0, i, b, f, hq, h => by
    obtain rfl : i = l.length := by omega
    exact h
  | q + 1, i, b, f, hq, h => by
    obtain ⟨h1, h2⟩ := h
    have hd := hD i z3
    rw [scanF]
    by_cases ht : T ≤ dD l la i (g i)
    · rw [if_pos ht]
      refine scan_inv2 g now hD q (i + 1) b f z3 ⟨?_, ?_⟩
      · rcases h1 with ⟨e, h⟩ | ⟨e, ⟨t, h3, h4⟩, h5⟩
        · refine .inl ⟨e, fun t h5 => ?_⟩
          by_cases h6 : t = i
          · subst h6; exact ht
          · exact h t z3
        · refine .inr ⟨e, ⟨t, by omega, h4⟩, fun t h6 h7 => ?_⟩
          by_cases h8 : t = i
          · subst h8; omega
          · exact h5 t z3 h7
      · rcases h2 with ⟨e, h⟩ | ⟨bn, e, h3, h4, h5, h6⟩
        · refine .inl ⟨e, fun t h5 h7 => ?_⟩
          by_cases h6 : t = i
          · subst h6; omega
          · exact h t z3 h7
        · refine .inr ⟨bn, e, by omega, h4, h5, fun t h7 h8 h9 => ?_⟩
          by_cases h10 : t = i
          · subst h10; omega
          · exact h6 t z3 h8 h9
    · rw [if_neg ht]
      refine scan_inv2 g now hD q (i + 1) _ _ z3 ⟨?_, ?_⟩
      · by_cases hf : f < 0 ∨ dD l la i (g i) < f
        · rw [if_pos hf]
          refine .inr ⟨hd, ⟨i, by omega, by omega, rfl⟩, fun t h6 h7 => ?_⟩
          by_cases h8 : t = i
          · subst h8; exact Int.le_refl _
          · rcases h1 with ⟨e, h⟩ | ⟨e, _, h5⟩
            · have := h t z3; omega
            · have := h5 t z3 h7; omega
        · rw [if_neg hf]
          rcases h1 with ⟨e, h⟩ | ⟨e, ⟨t, h3, h4⟩, h5⟩
          · omega
          · refine .inr ⟨e, ⟨t, by omega, h4⟩, fun t h6 h7 => ?_⟩
            by_cases h8 : t = i
            · subst h8; omega
            · exact h5 t z3 h7
      · by_cases hb : dD l la i (g i) ≤ now ∧ (b < 0 ∨ (rd_T55 l (i : Int)).f0 < (rd_T55 l b).f0)
        · rw [if_pos hb]
          refine .inr ⟨i, rfl, by omega, by omega, hb.1, fun t h7 h8 h9 => ?_⟩
          by_cases h10 : t = i
          · subst h10; exact Int.le_refl _
          · rcases h2 with ⟨e, h⟩ | ⟨bn, e, h3, h4, h5, h6⟩
            · have := h t z3 h8; omega
            · have h11 := h6 t z3 h8 h9
              rcases hb.2 with h12 | h12
              · omega
              · rw [e] at h12; omega
        · rw [if_neg hb]
          rcases h2 with ⟨e, h⟩ | ⟨bn, e, h3, h4, h5, h6⟩
          · refine .inl ⟨e, fun t h5 h7 => ?_⟩
            by_cases h6 : t = i
            · subst h6
              by_cases h8 : dD l la t (g t) ≤ now
              · exact absurd ⟨h8, .inl z3⟩ hb
              · omega
            · exact h t z3 h7
          · refine .inr ⟨bn, e, by omega, h4, h5, fun t h7 h8 h9 => ?_⟩
            by_cases h10 : t = i
            · subst h10
              rw [e] at hb
              by_cases h11 : (rd_T55 l (t : Int)).f0 < (rd_T55 l (bn : Int)).f0
              · exact absurd ⟨h9, .inr h11⟩ hb
              · omega
            · exact h6 t z3 h8 h9
theorem scan_all2 (g : Nat → Nat) (now : Int) (hD : ∀ t, t < l.length → 0 ≤ dD l la t (g t)) : scanInv2 l la T g now l.length (scanAll l la T g now).1 (scanAll l la T g now).2 :=
  scan_inv2 l la T g now hD l.length 0 (-1) (-1) z3 ⟨.inl ⟨rfl, fun t h => by omega⟩, .inl ⟨rfl, fun t h => by omega⟩⟩
structure Told (n : Nat) (ix : Nat → Nat) (st : Nat → Int) (g : Nat → Nat → Nat) (out : List S74) : Prop where
  sched : Sched l la T n ix st g
  len : out.length = n
  row : ∀ k, k < n → rd_T74 out (k : Int) = (⟨(rd_T55 l (ix k : Int)).f0, dD l la (ix k) (g k (ix k)), st k + bitsM (rd_T55 l (ix k : Int))⟩ : S74)
  up : ∀ k, k + 1 < n → st k + bitsM (rd_T55 l (ix k : Int)) ≤ st (k + 1)
  pos : ∀ k, k < n → 0 ≤ st k ∧ st k ≤ 1000000 + 135 * (k : Int)
theorem Told.more {n : Nat} {ix : Nat → Nat} {st : Nat → Int} {g : Nat → Nat → Nat} {out : List S74} (H : Told l la T n ix st g out) (b : Nat) (hb : b < l.length) (s : Int)
    (h1 : dD l la b (g n b) ≤ s) (h2 : dD l la b (g n b) < T) (h3 : ∀ t, t < l.length → (rd_T55 l (t : Int)).f0 < (rd_T55 l (b : Int)).f0 → s < dD l la t (g n t) ∨ T ≤ dD l la t (g n t))
    (h4 : (∀ t, t < l.length → s ≤ dD l la t (g n t) ∨ T ≤ dD l la t (g n t)) ∨ ∃ p, n = p + 1 ∧ s = st p + bitsM (rd_T55 l (ix p : Int)))
    (h5 : ∀ p, n = p + 1 → st p + bitsM (rd_T55 l (ix p : Int)) ≤ s) (h6 : 0 ≤ s) (h7 : s ≤ 1000000 + 135 * (n : Int)) :
    Told l la T (n + 1) (fun k => if k = n then b else ix k) (fun k => if k = n then s else st k) (fun k t => if k ≤ n then g k t else if t = b then g n t + 1 else g n t) (out ++ [(⟨(rd_T55 l (b : Int)).f0, dD l la b (g n b), s + bitsM (rd_T55 l (b : Int))⟩ : S74)]) := by
  obtain ⟨S, hlen, hrow, hup, hpos⟩ := H; (refine ⟨⟨fun t => ?_, fun k hk t => ?_, fun k hk => ?_, fun k hk => ?_, fun k hk t ht => ?_, fun k hk => ?_⟩, by rw [List.length_append, hlen]; rfl, fun k hk => ?_, fun k hk => ?_, fun k hk => ?_⟩)
  · rw [if_pos z3]; exact S.zero t
  · (rw [if_pos (show k ≤ n by omega)]); by_cases e : k = n
    · subst e; rw [if_neg z3, if_pos rfl]
    rw [if_pos z3, if_neg e]; exact S.next k z3 t
  · by_cases e : k = n
    · rw [if_pos e]; exact hb
    rw [if_neg e]; exact S.ixl k z3
  · (rw [if_pos (show k ≤ n by omega)]); by_cases e : k = n; rotate_left
    · rw [if_neg e, if_neg e]; exact S.due k z3
    subst e; rw [if_pos rfl, if_pos rfl]; exact ⟨h1, h2⟩
  · (rw [if_pos (show k ≤ n by omega)]); by_cases e : k = n
    · subst e; rw [if_pos rfl, if_pos rfl]; exact h3 t ht
    rw [if_neg e, if_neg e]; exact S.win k z3 t ht
  · by_cases e : k = n
    · subst e; rw [if_pos rfl]; (rcases h4 with h | ⟨p, e1, e2⟩)
      · (exact .inl fun t ht => by rw [if_pos (Nat.le_refl _)]; exact h t ht)
      (exact .inr ⟨p, e1, by rw [if_neg z3, if_neg z3]; exact e2⟩)
    rw [if_neg e]; (rcases S.go k z3 with h | ⟨p, e1, e2⟩)
    · (exact .inl fun t ht => by rw [if_pos (show k ≤ n by omega)]; exact h t ht)
    (exact .inr ⟨p, e1, by rw [if_neg z3, if_neg z3]; exact e2⟩)
  · (rw [rd74_app, hlen, if_pos (show k ≤ n by omega)]); by_cases e : k = n
    · subst e; rw [if_pos rfl, if_pos rfl, if_pos rfl]
    rw [if_neg e, if_neg e, if_neg e]; exact hrow k z3
  rotate_left
  · by_cases e : k = n; rotate_left
    · rw [if_neg e]; exact hpos k z3
    subst e; rw [if_pos rfl]; exact ⟨h6, h7⟩
  (rw [if_neg (show ¬ k = n by omega), if_neg (show ¬ k = n by omega)]); by_cases e : k + 1 = n
  · rw [if_pos e]; exact h5 k e.symm
  rw [if_neg e]; exact hup k z3
variable (hl8 : l.length ≤ 8) (hM : ∀ i, i < l.length → okM (rd_T55 l (i : Int)) = true) (hla : la.length = l.length) (hok : okFrom l la 0)
variable (c : Nat → Nat) (hc : ∀ i, i < l.length → T ≤ dD l la i (c i) ∧ ∀ j, j < c i → dD l la i j < T) (hT : T ≤ 1000000)
include hl8 hM hla hok hc hT
def Fine (next : List Int) (out : List S74) (now : Int) : Prop :=
  ∃ r : List S74, EvS (fun k => bus_Send.l5 k l la T next ((sumTo c l.length : Nat) : Int) out now) (some (r, 0)) ∧ ∃ n ix st g, Told l la T n ix st g r
omit hT in
theorem fine_step (d : Nat) (hle : sumTo c l.length ≤ 20000) (ih : ∀ n ix st g next out now, Told l la T n ix st g out → NX next (g n) l.length → (∀ i, i < l.length → g n i ≤ c i) → n = sumTo (g n) l.length → (∃ p, n = p + 1 ∧ now = st p + bitsM (rd_T55 l (ix p : Int))) → sumTo c l.length - sumTo (g n) l.length = d → Fine l la T c next out now)
    (n : Nat) (ix : Nat → Nat) (st : Nat → Int) (g : Nat → Nat → Nat) (next : List Int) (out : List S74) (s : Int) (H : Told l la T n ix st g out) (hn : NX next (g n) l.length) (hg : ∀ i, i < l.length → g n i ≤ c i) (hsum : n = sumTo (g n) l.length) (hd : sumTo c l.length - sumTo (g n) l.length = d + 1)
    (h4 : (∀ t, t < l.length → s ≤ dD l la t (g n t) ∨ T ≤ dD l la t (g n t)) ∨ ∃ p, n = p + 1 ∧ s = st p + bitsM (rd_T55 l (ix p : Int)))
    (h5 : ∀ p, n = p + 1 → st p + bitsM (rd_T55 l (ix p : Int)) ≤ s) (h6 : 0 ≤ s) (h7 : s ≤ 1000000 + 135 * (n : Int)) (hb : 0 ≤ (scanAll l la T (g n) s).1) : Fine l la T c next out s := by
  (have hsm : ∀ i, i < l.length → g n i ≤ 20000 := fun i hi => by have := sumTo_ge (g n) l.length i hi; omega); (have hat : ∀ i, i < l.length → bus_at.f (rd_T55 l (i : Int)).f0 (rd_T55 l (i : Int)).f1 (rd_T55 l (i : Int)).f2 (rd_T55 l (i : Int)).f3 (rd_L1 la (i : Int)) ((g n i : Nat) : Int) = some (dD l la i (g n i)) := fun i hi => at_D l la hM hok i hi (g n i) (by have := hsm i hi; omega)); (obtain ⟨v1, v2⟩ := scan_all2 l la T (g n) s (fun t ht => D_nonneg l la hM hok t ht (g n t))); (have hS := send_scan l la T hl8 hla (g n) next hn ((sumTo c l.length : Nat) : Int) s out); have hnl := hn.1; clear v1; (rcases v2 with ⟨e, _⟩ | ⟨bn, e, hbn, hbT, hbs, hbw⟩)
  · omega
  have hout := H.len; (have hC := bitsM_bounds (hM bn hbn))
  have H2 := H.more l la T bn hbn s hbs hbT (fun t ht hlt => by
    by_cases h1 : dD l la t (g n t) < T
    · by_cases h2 : dD l la t (g n t) ≤ s
      · have := hbw t ht h1 h2; omega
      · exact .inl z3
    · exact .inr z3) h4 h5 h6 h7
  (have hsl : sumTo (g n) l.length < sumTo c l.length := by omega); (have e' : (scanF l la T (g n) s l.length 0 (-1) (-1)).1 = (bn : Int) := e); (have hL2 : bus_bits.f (rd_T55 l (bn : Int)).f0 (rd_T55 l (bn : Int)).f1 (rd_T55 l (bn : Int)).f2 (rd_T55 l (bn : Int)).f3 = some (longV (rd_T55 l (bn : Int)).f1) := rfl)
  have en : wrap64 (s + longV (rd_T55 l (bn : Int)).f1) = s + bitsM (rd_T55 l (bn : Int)) := by
    rw [longV_eq (hM bn hbn), w64s _ z3 z3]
  have hgn : (fun t => if n + 1 ≤ n then g (n + 1) t else if t = bn then g n t + 1 else g n t) = upd (g n) bn := by
    funext t
    rw [if_neg z3]; rfl
  have hgc : g n bn < c bn := by
    rcases Nat.lt_or_ge (g n bn) (c bn) with h | h
    · exact h
    · have h2 : g n bn = c bn := by have := hg bn hbn; omega
      have h3 := (hc bn hbn).1
      rw [h2] at hbT; omega
  (have hn2 := hn.upd bn hbn (by have := hsm bn hbn; omega))
  obtain ⟨r, r1, r2⟩ := ih _ _ _ _ (next.set (bn : Int).toNat (wrap64 (rd next (bn : Int) + 1))) _ (s + bitsM (rd_T55 l (bn : Int))) H2 (by rw [hgn]; exact hn2) (fun i hi => by
      rw [if_neg z3]
      split
      · rename_i e2; subst e2; omega
      · exact hg i hi) (by rw [hgn, sumTo_upd, if_pos hbn]; omega) ⟨n, rfl, by rw [if_pos rfl, if_pos rfl]⟩ (by rw [hgn, sumTo_upd, if_pos hbn]; omega)
  (refine ⟨r, ?_, r2⟩); (refine (hS (some (r, 0)) hat l.length 0 (-1) (-1) z3 z3 z3 ?_).succ 0 fun k _ => ?_); rotate_left
  · rw [bus_Send.l5, if_pos z3]; rfl
  (refine r1.succ 0 fun k _ => ?_); rw [bus_Send.l6, if_neg z3, e', if_neg z3, if_pos z3, if_pos z3, if_pos z3, if_pos z3, hn.2 bn hbn, hat bn hbn, Option.bind_some, hL2, Option.bind_some, if_pos z3, en]
theorem fine_main (hle : sumTo c l.length ≤ 20000) : ∀ d n ix st g next out now, Told l la T n ix st g out → NX next (g n) l.length → (∀ i, i < l.length → g n i ≤ c i) → n = sumTo (g n) l.length → (n = 0 ∧ now = 0 ∨ ∃ p, n = p + 1 ∧ now = st p + bitsM (rd_T55 l (ix p : Int))) → sumTo c l.length - sumTo (g n) l.length = d → Fine l la T c next out now
  | 0, n, ix, st, g, next, out, now, H, hn, hg, hsum, hnow, hd => by
    have := sumTo_le (g n) c l.length hg
    have hout := H.len
    exact ⟨out, EvS.now 0 fun k _ => by rw [bus_Send.l5, if_neg z3], n, ix, st, g, H⟩
  | d + 1, n, ix, st, g, next, out, now, H, hn, hg, hsum, hnow, hd => by
    have ih : ∀ n ix st g next out now, Told l la T n ix st g out → NX next (g n) l.length → (∀ i, i < l.length → g n i ≤ c i) → n = sumTo (g n) l.length → (∃ p, n = p + 1 ∧ now = st p + bitsM (rd_T55 l (ix p : Int))) → sumTo c l.length - sumTo (g n) l.length = d → Fine l la T c next out now :=
      fun n ix st g next out now a b e f p q => fine_main hle d n ix st g next out now a b e f (.inr p) q
    have hsm : ∀ i, i < l.length → g n i ≤ 20000 := fun i hi => by have := sumTo_ge (g n) l.length i hi; omega
    have hat : ∀ i, i < l.length → bus_at.f (rd_T55 l (i : Int)).f0 (rd_T55 l (i : Int)).f1 (rd_T55 l (i : Int)).f2 (rd_T55 l (i : Int)).f3 (rd_L1 la (i : Int)) ((g n i : Nat) : Int) = some (dD l la i (g n i)) := fun i hi => at_D l la hM hok i hi (g n i) (by have := hsm i hi; omega)
    have hD : ∀ t, t < l.length → 0 ≤ dD l la t (g n t) := fun t ht => D_nonneg l la hM hok t ht (g n t)
    have hnow0 : 0 ≤ now ∧ now ≤ 1000000 + 135 * (n : Int) := by
      rcases hnow with ⟨e1, e2⟩ | ⟨p, e1, e2⟩
      · omega
      · have h1 := H.pos p z3
        have h2 := bitsM_bounds (hM _ (H.sched.ixl p z3))
        omega
    have hup : ∀ p, n = p + 1 → st p + bitsM (rd_T55 l (ix p : Int)) = now := fun p e => by
      rcases hnow with ⟨e1, e2⟩ | ⟨p', e1, e2⟩
      · omega
      · obtain rfl : p' = p := by omega
        exact e2.symm
    by_cases hb : 0 ≤ (scanAll l la T (g n) now).1
    · refine fine_step l la T hl8 hM hla hok c hc d hle ih n ix st g next out now H hn hg hsum hd ?_ (fun p e => by have := hup p e; omega) hnow0.1 hnow0.2 hb
      rcases hnow with ⟨e1, e2⟩ | h
      · exact .inl fun t ht => .inl (by have := hD t ht; omega)
      · exact .inr h
    obtain ⟨v1, v2⟩ := scan_all2 l la T (g n) now hD
    have hv2 : ∀ t, t < l.length → dD l la t (g n t) < T → now < dD l la t (g n t) := by
      clear v1 hup hnow
      rcases v2 with ⟨_, h⟩ | ⟨bn, e, _⟩
      · exact h
      · omega
    have hf : 0 ≤ (scanAll l la T (g n) now).2 ∧ (∃ t, t < l.length ∧ dD l la t (g n t) < T ∧ dD l la t (g n t) = (scanAll l la T (g n) now).2) ∧ ∀ t, t < l.length → dD l la t (g n t) < T → (scanAll l la T (g n) now).2 ≤ dD l la t (g n t) := by
      clear v2 hup hnow
      rcases v1 with ⟨e1, h⟩ | h
      · have heq : ∀ i, i < l.length → g n i = c i := fun i hi => by
          rcases Nat.lt_or_ge (g n i) (c i) with h2 | h2
          · have h3 := (hc i hi).2 (g n i) h2
            have h4 := h i hi
            omega
          · have := hg i hi; omega
        have := sumTo_same (g n) c l.length heq
        omega
      · exact h
    clear v1 v2
    obtain ⟨hf0, ⟨t, ht1, ht2, ht3⟩, hfm⟩ := hf
    have hb2 : 0 ≤ (scanAll l la T (g n) (scanAll l la T (g n) now).2).1 := by
      obtain ⟨u1, u2⟩ := scan_all2 l la T (g n) (scanAll l la T (g n) now).2 hD
      clear u1
      rcases u2 with ⟨e, h⟩ | ⟨bn, e, _⟩
      · have := h t ht1 ht2; omega
      · omega
    have hgt := hv2 t ht1 ht2
    obtain ⟨r, r1, r2⟩ := fine_step l la T hl8 hM hla hok c hc d hle ih n ix st g next out (scanAll l la T (g n) now).2 H hn hg hsum hd (.inl fun t ht => by
      by_cases h : dD l la t (g n t) < T
      · exact .inl (hfm t ht h)
      · exact .inr z3) (fun p e => by have := hup p e; omega) hf0 z3 hb2
    have hout := H.len
    have hb' : (scanF l la T (g n) now l.length 0 (-1) (-1)).1 < 0 := by show (scanAll l la T (g n) now).1 < 0; omega
    refine ⟨r, ?_, r2⟩
    refine (send_scan l la T hl8 hla (g n) next hn ((sumTo c l.length : Nat) : Int) now out (some (r, 0)) hat l.length 0 (-1) (-1) z3 z3 z3 ?_).succ 0 fun k _ => ?_
    · refine r1.succ 0 fun k _ => ?_
      rw [bus_Send.l6, if_neg z3, if_pos hb']
    · rw [bus_Send.l5, if_pos z3]; rfl
end
theorem Send_sched (l : List S55) (la : List (List Int)) (T : Int) (hsz : ∀ i, i < la.length → (rd_L1 la (i : Int)).length ≤ 1000) :
    ∃ r : SRes, EvS (fun k => bus_Send.f k l la T) (some r) ∧ (r.2 ≠ 0 ∧ r.1 = [] ∨ r.2 = 0 ∧ sentB l = true ∧ okFrom l la 0 ∧ r.1.length ≤ 20000 ∧ ∃ n ix st g, Told l la T n ix st g r.1) := by
  (have bad1 : ∀ b : Bool, b = true → EvS (fun k => bus_Send.j0 k l la T b) (some ([], 2)) := fun b hb => EvS.now 0 fun k _ => by rw [bus_Send.j0, if_pos hb]); (have no2 : ((([] : List S74), (2 : Int)) : SRes).2 ≠ 0 := by decide); (have no8 : ((([] : List S74), (8 : Int)) : SRes).2 ≠ 0 := by decide); (cases hs : sentB l)
  · (refine ⟨([], 2), (bad1 true rfl).same fun k => ?_, .inl ⟨no2, rfl⟩⟩); (show (bus_sent.f l).bind _ = _); rw [bus_sent.f, hs, Option.bind_some, if_neg (by simp)]
  (obtain ⟨hl8, hM⟩ := sentB_ok l hs); by_cases t1 : T < 0
  · (refine ⟨([], 2), (bad1 true rfl).same fun k => ?_, .inl ⟨no2, rfl⟩⟩); (show (bus_sent.f l).bind _ = _); rw [bus_sent.f, hs, Option.bind_some, if_pos rfl, if_pos t1]
  by_cases t2 : T > 1000000
  · (refine ⟨([], 2), (bad1 true rfl).same fun k => ?_, .inl ⟨no2, rfl⟩⟩); (show (bus_sent.f l).bind _ = _); rw [bus_sent.f, hs, Option.bind_some, if_pos rfl, if_neg t1, if_pos t2]
  by_cases hla : la.length = l.length
  case neg => (have e : ((la.length : Int) != (l.length : Int)) = true := by simp; omega); (refine ⟨([], 2), (bad1 _ e).same fun k => ?_, .inl ⟨no2, rfl⟩⟩); (show (bus_sent.f l).bind _ = _); rw [bus_sent.f, hs, Option.bind_some, if_pos rfl, if_neg t1, if_neg t2]
  (have e : ((la.length : Int) != (l.length : Int)) = false := by simp; omega)
  have go1 : ∀ r, EvS (fun k => bus_Send.l0 k l la T l (l.length : Int) ((0 : Nat) : Int)) r → EvS (fun k => bus_Send.f k l la T) r := fun r h => by
    refine EvS.same (g := fun k => bus_Send.j0 k l la T false) (h.succ 0 fun k _ => ?_) fun k => ?_
    · rw [bus_Send.j0, if_neg (by simp)]; rfl
    · show (bus_sent.f l).bind _ = _
      rw [bus_sent.f, hs, Option.bind_some, if_pos rfl, if_neg t1, if_neg t2, e]
  by_cases hok : okFrom l la 0; (case neg => exact ⟨([], 2), go1 _ (send_l0_bad l la T hl8 hM hla hsz _ 0 rfl hok), .inl ⟨no2, rfl⟩⟩); (obtain ⟨c, hc⟩ := counts l la T hM); (have hn : NX (List.replicate l.length (0 : Int)) (fun _ => 0) l.length := ⟨by simp, fun i _ => by rw [rd_zero]; rfl⟩)
  have hz : ∀ n, sumTo (fun _ => 0) n = 0 := fun n => by
    induction n with
    | zero => rfl
    | succ n ih => simp only [sumTo]; omega
  by_cases hle : sumTo c l.length ≤ 20000; rotate_left
  · (have h3 := send_l3_full l la T hl8 hM hla hok c hc (List.replicate l.length 0) z3 l.length 0 z3 (by show 0 ≤ 20000; omega)); (exact ⟨([], 8), go1 _ (send_l0 l la T hl8 hM hla hsz _ h3 _ 0 rfl (Nat.zero_le _) hok), .inl ⟨no8, rfl⟩⟩)
  obtain ⟨r, r1, n, ix, st, g, r2⟩ := fine_main l la T hl8 hM hla hok c hc z3 hle _ 0 (fun _ => 0) (fun _ => 0) (fun _ _ => 0) (List.replicate l.length 0) [] 0
    ⟨⟨fun _ => rfl, fun k hk => by omega, fun k hk => by omega, fun k hk => by omega, fun k hk => by omega, fun k hk => by omega⟩, rfl, fun k hk => by omega, fun k hk => by omega, fun k hk => by omega⟩ hn (fun _ _ => by omega) (by rw [hz]) (.inl ⟨rfl, rfl⟩) rfl
  (have h3 := send_l3 l la T hl8 hM hla hok c hc (List.replicate l.length 0) (some (r, 0)) hle r1 l.length 0 z3)
  have hr : r.length ≤ 20000 := by
    obtain ⟨r', a1, a2, a3, a4⟩ := send_main l la T hl8 hM hla hok c hc _ (fun _ => 0) (List.replicate l.length 0) [] 0 hn (fun _ _ => by omega) (by rw [hz]; rfl) (by simp) rfl
    obtain ⟨K1, b1⟩ := r1
    obtain ⟨K2, b2⟩ := a2 hle
    have e1 := (b1 (max K1 K2) z3).symm.trans (b2 (max K1 K2) z3)
    rw [← sI e1] at a4
    exact a4
  (exact ⟨(r, 0), go1 _ (send_l0 l la T hl8 hM hla hsz _ h3 _ 0 rfl (Nat.zero_le _) hok), .inr ⟨rfl, rfl, hok, hr, n, ix, st, g, r2⟩⟩)
end Go.Proofs.YtbanemecfobonaaDoor.B
