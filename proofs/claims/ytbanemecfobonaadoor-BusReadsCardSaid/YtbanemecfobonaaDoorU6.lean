/- Read, plainly: the program's reader and the specification's go through the bits alike. -/
import Derived.Test.YtbanemecfobonaaDoorU5
import Derived.Test.YtbanemecfobonaaDoorX3r
namespace Go.Proofs.YtbanemecfobonaaDoor.B
open Go.RowKit Go.Proofs.YtbanemecfobonaaDoorW.PrintWords Go.Proofs.YtbanemecfobonaaDoorW.PrintLast Go.Proofs.YtbanemecfobonaaDoorW.PrintMore
set_option linter.unusedVariables false
set_option linter.unusedSimpArgs false

/-- From some number of rounds on, a loop answers r. -/
def EvR {α : Type} (f : Nat → Option α) (r : Option α) : Prop := ∃ K, ∀ k, K ≤ k → f k = r
theorem EvR.succ {α : Type} {f g : Nat → Option α} {r : Option α} (h : EvR g r) (K0 : Nat) (hs : ∀ k, K0 ≤ k → f (k + 1) = g k) : EvR f r := by
  obtain ⟨K, hK⟩ := h
  refine ⟨max K K0 + 1, fun k hk => ?_⟩
  obtain ⟨j, rfl⟩ : ∃ j, k = j + 1 := ⟨k - 1, by omega⟩
  rw [hs j (by omega), hK j (by omega)]
theorem EvR.now {α : Type} {f : Nat → Option α} {r : Option α} (K0 : Nat) (hs : ∀ k, K0 ≤ k → f (k + 1) = r) : EvR f r :=
  ⟨K0 + 1, fun k hk => by obtain ⟨j, rfl⟩ : ∃ j, k = j + 1 := ⟨k - 1, by omega⟩; exact hs j (by omega)⟩
abbrev Ans := Int × List Int × Int × Int
/-- The answer to bits that no frame can have. -/
def badAt (i : Nat) : Option Ans := some (0, ([] : List Int), (i : Int), 5)

/-- What the reader knows when i bits are read, of which run came last alike. -/
def RdAt (l : List Int) (i run : Nat) (s : Rd) : Prop :=
  s.pos = (i : Int) ∧ s.many = (run : Int) ∧ (i = 0 ∧ run = 0 ∨ 1 ≤ i ∧ 1 ≤ run ∧ s.bit = rd l ((i - 1 : Nat) : Int))
/-- How many come last alike when bit i is read, too. -/
def runN (l : List Int) (i run : Nat) : Nat := if 0 < i ∧ rd l (i : Int) = rd l ((i - 1 : Nat) : Int) then run + 1 else 1
theorem RdAt.step {l : List Int} {i run : Nat} {s : Rd} (h : RdAt l i run s) (hr : run ≤ 10) (hi : i ≤ 1000) : RdAt l (i + 1) (runN l i run) (s.step l) := by
  obtain ⟨h1, h2, h3⟩ := h
  have hb : put1 s.bit s.many (rd l s.pos) = (rd l (i : Int), ((runN l i run : Nat) : Int)) := by
    rw [h1, h2]
    unfold put1 runN
    rcases h3 with ⟨rfl, rfl⟩ | ⟨h4, h5, h6⟩
    · rw [if_neg (by decide), if_neg (by omega)]; rfl
    · rw [if_pos (by omega), h6]
      by_cases he : rd l (i : Int) = rd l ((i - 1 : Nat) : Int)
      · rw [if_pos he.symm, if_pos ⟨by omega, he⟩, w64 _ (by omega) (by omega), he]
        congr 1
      · rw [if_neg (fun e => he e.symm), if_neg (fun e => he e.2)]; rfl
  refine ⟨?_, ?_, .inr ⟨by omega, ?_, ?_⟩⟩
  · show s.pos + 1 = _
    omega
  · show (put1 s.bit s.many (rd l s.pos)).2 = _
    rw [hb]
  · unfold runN; split <;> omega
  · show (put1 s.bit s.many (rd l s.pos)).1 = _
    rw [hb]
    rfl
theorem nextOk_nat (l : List Int) (i : Nat) (want : Int) (hi : i ≤ l.length) : nextOk l (i : Int) want = true ↔ i < l.length ∧ (want < 0 ∨ rd l (i : Int) = want) := by
  unfold nextOk
  by_cases h : i = l.length
  · simp [h]
  · have e : ((i : Int) == (l.length : Int)) = false := by simp; omega
    rw [e]
    simp
    omega

theorem cond_eq (got : List Int) (hb : Bits01 got) (hl : got.length ≤ 200) : ∃ n : Int, bus_bytesOf.f 300 got = some n ∧ ((got.length : Int) < wrap64 (34 + wrap64 (8 * n)) ↔ goesOn got) := by
  have hn := nbS_lt got hb
  by_cases h : got.length < 19
  · refine ⟨9, by rw [bytesOf_eq got hb 300 (by omega), if_pos h], ?_⟩
    have e : wrap64 (34 + wrap64 (8 * 9)) = 106 := by unfold wrap64; omega
    rw [e]
    exact ⟨fun _ => .inl h, fun _ => by omega⟩
  · refine ⟨((nbS got : Nat) : Int), by rw [bytesOf_eq got hb 300 (by omega), if_neg h], ?_⟩
    have e : wrap64 (34 + wrap64 (8 * ((nbS got : Nat) : Int))) = ((34 + 8 * nbS got : Nat) : Int) := by
      rw [w64 (8 * ((nbS got : Nat) : Int)) (by omega) (by omega), w64 _ (by omega) (by omega)]; omega
    rw [e]
    refine ⟨fun h1 => .inr (by omega), fun h1 => ?_⟩
    rcases h1 with h1 | h1
    · exact absurd h1 h
    · omega
theorem Rd0 (l : List Int) : RdAt l 0 0 ⟨0, 0, 0⟩ := ⟨rfl, rfl, .inl ⟨rfl, rfl⟩⟩

section
variable (l : List Int) (hb : Bits01 l) (hl : l.length ≤ 200)
include hb hl
omit hb hl in
/-- One round of the specification at a plain bit: it goes no further. -/
theorem ref_stop (got : List Int) (run i : Nat) (hg : Bits01 got) (hgl : got.length ≤ 160) (hgo : goesOn got) (hrun : run ≤ 4) (hi : i ≤ l.length) (hno : ¬ (i < l.length ∧ (dueS got < 0 ∨ rd l (i : Int) = dueS got))) :
    EvR (fun k => neonwrightref08_Read.l0 k l got (run : Int) (i : Int)) (badAt i) := by
  have hj : EvR (fun k => neonwrightref08_Read.j1 k l got (run : Int) (i : Int) true) (badAt i) := by
    refine EvR.now 300 fun k hk => ?_
    rw [neonwrightref08_Read.j1, if_pos rfl]
    by_cases h : i = l.length
    · have c : (i : Int) = (l.length : Int) := by omega
      rw [if_pos c]; rfl
    · have c : ¬ (i : Int) = (l.length : Int) := by omega
      have c2 : ¬ (run : Int) = 5 := by omega
      have c3 : (0 : Int) ≤ (i : Int) := by omega
      have c4 : (i : Int) < (l.length : Int) := by omega
      have eg : (decide (dueS got < 0) || (rd l (i : Int) == dueS got)) = false := by
        cases hc : (decide (dueS got < 0) || (rd l (i : Int) == dueS got)) with
        | false => rfl
        | true =>
          rw [Bool.or_eq_true, decide_eq_true_eq, beq_iff_eq] at hc
          exact absurd ⟨by omega, hc⟩ hno
      rw [if_neg c, if_neg c2, if_pos c3, if_pos c4, goes_eq got _ hg (by omega) hgo k (by omega), Option.bind_some, eg, if_neg (by simp)]
      rfl
  refine EvR.succ hj 20 fun k hk => ?_
  obtain ⟨n, hn, hd⟩ := size_eq got hg (by omega) k (by omega)
  have c : (got.length : Int) < n := by
    have h1 : decide ((got.length : Int) < n) = true := by rw [hd]; exact decide_eq_true hgo
    exact of_decide_eq_true h1
  rw [neonwrightref08_Read.l0, hn, Option.bind_some, if_pos c]
omit hb in
/-- One round at a plain bit that is allowed. -/
theorem ref_plain (got : List Int) (run i : Nat) (hg : Bits01 got) (hgl : got.length ≤ 160) (hgo : goesOn got) (hrun : run ≤ 4) (hi : i < l.length) (hok : dueS got < 0 ∨ rd l (i : Int) = dueS got) (r : Option Ans)
    (h : EvR (fun k => neonwrightref08_Read.l0 k l (got ++ [rd l (i : Int)]) ((runN l i run : Nat) : Int) ((i + 1 : Nat) : Int)) r) :
    EvR (fun k => neonwrightref08_Read.l0 k l got (run : Int) (i : Int)) r := by
  have hj : EvR (fun k => neonwrightref08_Read.j1 k l got (run : Int) (i : Int) true) r := by
    refine EvR.succ h 300 fun k hk => ?_
    have c : ¬ (i : Int) = (l.length : Int) := by omega
    have c2 : ¬ (run : Int) = 5 := by omega
    have c3 : (0 : Int) ≤ (i : Int) := by omega
    have c4 : (i : Int) < (l.length : Int) := by omega
    have eg : (decide (dueS got < 0) || (rd l (i : Int) == dueS got)) = true := by
      rw [Bool.or_eq_true, decide_eq_true_eq, beq_iff_eq]; exact hok
    have c5 : got.length < 17592186044416 := by omega
    have f1 : i ≤ 1000000000 := by omega
    rw [neonwrightref08_Read.j1, if_pos rfl, if_neg c, if_neg c2, if_pos c3, if_pos c4, goes_eq got _ hg (by omega) hgo k (by omega), Option.bind_some, eg, if_pos rfl, nNext i f1]
    by_cases h0 : 0 < i
    · have c6 : (i : Int) > 0 := by omega
      have e : wrap64 ((i : Int) - 1) = ((i - 1 : Nat) : Int) := by rw [w64 _ (by omega) (by omega)]; omega
      have c7 : (0 : Int) ≤ ((i - 1 : Nat) : Int) := by omega
      have c8 : ((i - 1 : Nat) : Int) < (l.length : Int) := by omega
      rw [if_pos c6, e, if_pos c7, if_pos c8]
      by_cases he : rd l (i : Int) = rd l ((i - 1 : Nat) : Int)
      · have er : runN l i run = run + 1 := by unfold runN; rw [if_pos ⟨h0, he⟩]
        have f2 : run ≤ 1000000000 := by omega
        rw [if_pos he, if_pos c5, nNext run f2, er]
      · have er : runN l i run = 1 := by unfold runN; rw [if_neg (fun e => he e.2)]
        rw [if_neg he, if_pos c5, er]
        rfl
    · have c6 : ¬ (i : Int) > 0 := by omega
      have er : runN l i run = 1 := by unfold runN; rw [if_neg (fun e => h0 e.1)]
      rw [if_neg c6, if_pos c5, er]
      rfl
  refine EvR.succ hj 20 fun k hk => ?_
  obtain ⟨n, hn, hd⟩ := size_eq got hg (by omega) k (by omega)
  have c : (got.length : Int) < n := by
    have h1 : decide ((got.length : Int) < n) = true := by rw [hd]; exact decide_eq_true hgo
    exact of_decide_eq_true h1
  rw [neonwrightref08_Read.l0, hn, Option.bind_some, if_pos c]
omit hb in
/-- The round at an opposite bit. -/
theorem ref_opp (got : List Int) (i : Nat) (hg : Bits01 got) (hgl : got.length ≤ 160) (hi0 : 0 < i) (hi : i ≤ l.length) (r : Option Ans)
    (h : if i < l.length ∧ rd l (i : Int) ≠ rd l ((i - 1 : Nat) : Int) then EvR (fun k => neonwrightref08_Read.l0 k l got 1 ((i + 1 : Nat) : Int)) r else r = badAt i) :
    EvR (fun k => neonwrightref08_Read.l0 k l got 5 (i : Int)) r := by
  have hj : EvR (fun k => neonwrightref08_Read.j1 k l got 5 (i : Int) true) r := by
    have f1 : i ≤ 1000000000 := by omega
    have c3 : (0 : Int) ≤ (i : Int) := by omega
    have e : wrap64 ((i : Int) - 1) = ((i - 1 : Nat) : Int) := by rw [w64 _ (by omega) (by omega)]; omega
    have c7 : (0 : Int) ≤ ((i - 1 : Nat) : Int) := by omega
    have c8 : ((i - 1 : Nat) : Int) < (l.length : Int) := by omega
    by_cases hlt : i < l.length
    · have c : ¬ (i : Int) = (l.length : Int) := by omega
      have c4 : (i : Int) < (l.length : Int) := by omega
      by_cases he : rd l (i : Int) = rd l ((i - 1 : Nat) : Int)
      · rw [if_neg (fun e => e.2 he)] at h
        rw [h]
        refine EvR.now 0 fun k _ => ?_
        rw [neonwrightref08_Read.j1, if_pos rfl, if_neg c, if_pos rfl, if_pos c3, if_pos c4, e, if_pos c7, if_pos c8, if_pos he]
        rfl
      · rw [if_pos ⟨hlt, he⟩] at h
        refine EvR.succ h 0 fun k _ => ?_
        rw [neonwrightref08_Read.j1, if_pos rfl, if_neg c, if_pos rfl, if_pos c3, if_pos c4, e, if_pos c7, if_pos c8, if_neg he, nNext i f1]
    · rw [if_neg (fun e => hlt e.1)] at h
      rw [h]
      refine EvR.now 0 fun k _ => ?_
      have c : (i : Int) = (l.length : Int) := by omega
      rw [neonwrightref08_Read.j1, if_pos rfl, if_pos c]
      rfl
  refine EvR.succ hj 20 fun k hk => ?_
  obtain ⟨n, hn, hd⟩ := size_eq got hg (by omega) k (by omega)
  rw [neonwrightref08_Read.l0, hn, Option.bind_some]
  by_cases c : (got.length : Int) < n
  · rw [if_pos c]
  · rw [if_neg c]; rfl
omit hb hl in
/-- The end of the plain bits. -/
theorem ref_end (got : List Int) (run i : Nat) (hg : Bits01 got) (hgl : got.length ≤ 160) (hgo : ¬ goesOn got) (hrun : run ≤ 4) (r : Option Ans)
    (h : EvR (fun k => neonwrightref08_Read.l1 k l got (i : Int) tailD 0) r) :
    EvR (fun k => neonwrightref08_Read.l0 k l got (run : Int) (i : Int)) r := by
  have hj : EvR (fun k => neonwrightref08_Read.j1 k l got (run : Int) (i : Int) false) r := by
    refine EvR.succ h 0 fun k _ => ?_
    have et : neonwrightref08_tail.f = some tailD := rfl
    rw [neonwrightref08_Read.j1, if_neg (by simp), et, Option.bind_some]
  refine EvR.succ hj 20 fun k hk => ?_
  obtain ⟨n, hn, hd⟩ := size_eq got hg (by omega) k (by omega)
  have c : ¬ (got.length : Int) < n := by
    have h1 : decide ((got.length : Int) < n) = false := by rw [hd]; exact decide_eq_false hgo
    exact of_decide_eq_false h1
  have e : ((run : Int) == 5) = false := by simp; omega
  rw [neonwrightref08_Read.l0, hn, Option.bind_some, if_neg c, e]

theorem read_loop : ∀ (m : Nat) (got : List Int) (s : Rd) (i run : Nat), 156 - got.length ≤ m → got.length ≤ 155 → Bits01 got → i ≤ l.length → RdAt l i run s → run ≤ 4 →
    ∃ ok got' s', readLoop l (m + 1) s got = some (ok, got', s') ∧ ∃ i' : Nat, s'.pos = (i' : Int) ∧ i' ≤ l.length ∧
      (ok = false → EvR (fun k => neonwrightref08_Read.l0 k l got (run : Int) (i : Int)) (badAt i')) ∧
      (ok = true → Bits01 got' ∧ got'.length ≤ 160 ∧ ¬ goesOn got' ∧ ∀ r, EvR (fun k => neonwrightref08_Read.l1 k l got' (i' : Int) tailD 0) r → EvR (fun k => neonwrightref08_Read.l0 k l got (run : Int) (i : Int)) r) := by
  intro m
  induction m with
  | zero => intro got s i run hm h1; omega
  | succ m ih =>
    intro got s i run hm hgl hg hi hs hrun
    obtain ⟨n, hn, hc⟩ := cond_eq got hg (by omega)
    have hpos := hs.1
    have g1 : got.length ≤ 1000 := by omega
    rw [readLoop, if_pos g1, hn, Option.bind_some]
    by_cases hgo : goesOn got
    · have hnb := nbS_lt got hg
      have hlen : got.length < 154 := by
        rcases hgo with h | h
        · omega
        · omega
      rw [if_pos (hc.mpr hgo), due_eq got hg (by omega) hgo 300 (by omega), Option.bind_some, hpos]
      by_cases hok : i < l.length ∧ (dueS got < 0 ∨ rd l (i : Int) = dueS got)
      · have hnx : nextOk l (i : Int) (dueS got) = true := (nextOk_nat l i _ hi).mpr hok
        have hbit := hb.at_ i hok.1
        have hst := hs.step (by omega) (by omega)
        have hg' := hg.add (rd l (i : Int)) hbit
        have hgl' : (got ++ [rd l (i : Int)]).length = got.length + 1 := by simp
        have hmany := hst.2.1
        have hpos1 := hst.1
        have hrun5 : runN l i run ≤ 5 := by unfold runN; split <;> omega
        rw [if_pos hnx]
        by_cases h5 : runN l i run = 5
        · have c5 : (s.step l).many = 5 := by rw [hmany, h5]; rfl
          have ew : wrap64 (1 - rd l (i : Int)) = 1 - rd l (i : Int) := w64 _ (by omega) (by omega)
          have e2 : i + 1 - 1 = i := by omega
          rw [if_pos c5, hpos1, ew]
          by_cases hop : i + 1 < l.length ∧ rd l ((i + 1 : Nat) : Int) = 1 - rd l (i : Int)
          · have hnx2 : nextOk l ((i + 1 : Nat) : Int) (1 - rd l (i : Int)) = true := (nextOk_nat l (i + 1) _ (by omega)).mpr ⟨hop.1, .inr hop.2⟩
            have hst2 := hst.step (by omega) (by omega)
            have hne : rd l ((i + 1 : Nat) : Int) ≠ rd l (i : Int) := by rw [hop.2]; omega
            have er : runN l (i + 1) (runN l i run) = 1 := by unfold runN; rw [if_neg (fun e => hne (by have := e.2; rwa [e2] at this))]
            rw [er] at hst2
            rw [if_pos hnx2]
            obtain ⟨ok, got', s', h1, i', h2, h3, h4, h6⟩ := ih (got ++ [rd l (i : Int)]) ((s.step l).step l) (i + 2) 1 (by omega) (by omega) hg' (by omega) hst2 (by omega)
            have lift : ∀ r, EvR (fun k => neonwrightref08_Read.l0 k l (got ++ [rd l (i : Int)]) ((1 : Nat) : Int) ((i + 2 : Nat) : Int)) r → EvR (fun k => neonwrightref08_Read.l0 k l got (run : Int) (i : Int)) r := fun r hr => by
              refine ref_plain l hl got run i hg (by omega) hgo hrun hok.1 hok.2 r ?_
              rw [h5]
              refine ref_opp l hl _ (i + 1) hg' (by omega) (by omega) (by omega) r ?_
              rw [if_pos ⟨hop.1, by rw [e2]; exact hne⟩]
              exact hr
            exact ⟨ok, got', s', h1, i', h2, h3, fun e => lift _ (h4 e), fun e => by
              obtain ⟨a1, a2, a3, a4⟩ := h6 e
              exact ⟨a1, a2, a3, fun r hr => lift r (a4 r hr)⟩⟩
          · have hnx2 : ¬ nextOk l ((i + 1 : Nat) : Int) (1 - rd l (i : Int)) = true := fun e => by
              have := (nextOk_nat l (i + 1) _ (by omega)).mp e
              refine hop ⟨this.1, ?_⟩
              rcases this.2 with h | h
              · omega
              · exact h
            rw [if_neg hnx2]
            refine ⟨false, _, _, rfl, i + 1, hpos1, by omega, fun _ => ?_, fun e => by cases e⟩
            refine ref_plain l hl got run i hg (by omega) hgo hrun hok.1 hok.2 _ ?_
            rw [h5]
            refine ref_opp l hl _ (i + 1) hg' (by omega) (by omega) (by omega) _ ?_
            rw [if_neg]
            rintro ⟨h1, h2⟩
            rw [e2] at h2
            refine hop ⟨h1, ?_⟩
            have hbit2 := hb.at_ (i + 1) h1
            omega
        · have c5 : ¬ (s.step l).many = 5 := by rw [hmany]; omega
          rw [if_neg c5]
          obtain ⟨ok, got', s', h1, i', h2, h3, h4, h6⟩ := ih (got ++ [rd l (i : Int)]) (s.step l) (i + 1) (runN l i run) (by omega) (by omega) hg' (by omega) hst (by omega)
          have lift : ∀ r, EvR (fun k => neonwrightref08_Read.l0 k l (got ++ [rd l (i : Int)]) ((runN l i run : Nat) : Int) ((i + 1 : Nat) : Int)) r → EvR (fun k => neonwrightref08_Read.l0 k l got (run : Int) (i : Int)) r := fun r hr => ref_plain l hl got run i hg (by omega) hgo hrun hok.1 hok.2 r hr
          exact ⟨ok, got', s', h1, i', h2, h3, fun e => lift _ (h4 e), fun e => by
            obtain ⟨a1, a2, a3, a4⟩ := h6 e
            exact ⟨a1, a2, a3, fun r hr => lift r (a4 r hr)⟩⟩
      · have hnx : ¬ nextOk l (i : Int) (dueS got) = true := fun e => hok ((nextOk_nat l i _ hi).mp e)
        rw [if_neg hnx]
        exact ⟨false, got, s, rfl, i, hpos, hi, fun _ => ref_stop l got run i hg (by omega) hgo hrun hi hok, fun e => by cases e⟩
    · rw [if_neg (fun e => hgo (hc.mp e))]
      exact ⟨true, got, s, rfl, i, hpos, hi, fun e => (by cases e), fun _ => ⟨hg, by omega, hgo, fun r hr => ref_end l got run i hg (by omega) hgo hrun r hr⟩⟩
end

theorem tail_false (l : List Int) : ∀ (t : List Int) (s : Rd), tailLoop l t false s = (false, s)
  | [], s => rfl
  | b :: t, s => by rw [tailLoop, if_neg (by simp)]; exact tail_false l t s
theorem tail_loop (l p : List Int) (T : List Int) (hT : Bits01 T) (hTl : T.length ≤ 1000) (hl : l.length ≤ 200) : ∀ (m j i : Nat) (s : Rd), T.length - j = m → j ≤ T.length → i ≤ l.length → s.pos = (i : Int) →
    ∃ i' : Nat, (tailLoop l (T.drop j) true s).2.pos = (i' : Int) ∧ i' ≤ l.length ∧
      ((tailLoop l (T.drop j) true s).1 = false → EvR (fun k => neonwrightref08_Read.l1 k l p (i : Int) T (j : Int)) (badAt i')) ∧
      ((tailLoop l (T.drop j) true s).1 = true → ∀ r, EvR (fun k => neonwrightref08_Read.l1 k l p (i' : Int) T (T.length : Int)) r → EvR (fun k => neonwrightref08_Read.l1 k l p (i : Int) T (j : Int)) r)
  | 0, j, i, s, hm, hj, hi, hp => by
    obtain rfl : j = T.length := by omega
    rw [List.drop_length]
    exact ⟨i, hp, hi, fun e => (by cases e), fun _ r hr => hr⟩
  | m + 1, j, i, s, hm, hj, hi, hp => by
    have hjl : j < T.length := by omega
    have f1 : i ≤ 1000000000 := by omega
    have f2 : j ≤ 1000000000 := by omega
    rw [drop_rd T j hjl, tailLoop, if_pos rfl, hp]
    have hbt := hT.at_ j hjl
    have cj : (j : Int) < (T.length : Int) := by omega
    have cj0 : (0 : Int) ≤ (j : Int) := by omega
    have ci0 : (0 : Int) ≤ (i : Int) := by omega
    by_cases hok : i < l.length ∧ rd l (i : Int) = rd T (j : Int)
    · have hnx : nextOk l (i : Int) (rd T (j : Int)) = true := (nextOk_nat l i _ hi).mpr ⟨hok.1, .inr hok.2⟩
      have hp2 : (s.step l).pos = ((i + 1 : Nat) : Int) := by
        show s.pos + 1 = _
        omega
      rw [if_pos hnx]
      obtain ⟨i', h1, h2, h3, h4⟩ := tail_loop l p T hT hTl hl m (j + 1) (i + 1) (s.step l) (by omega) (by omega) (by omega) hp2
      have ci : ¬ (i : Int) = (l.length : Int) := by omega
      have ci2 : (i : Int) < (l.length : Int) := by omega
      have lift : ∀ r, EvR (fun k => neonwrightref08_Read.l1 k l p ((i + 1 : Nat) : Int) T ((j + 1 : Nat) : Int)) r → EvR (fun k => neonwrightref08_Read.l1 k l p (i : Int) T (j : Int)) r := fun r hr => by
        refine EvR.succ hr 0 fun k _ => ?_
        rw [neonwrightref08_Read.l1, if_pos cj, if_neg ci, if_pos ci0, if_pos ci2, if_pos cj0, if_pos hok.2, nNext i f1, nNext j f2]
      exact ⟨i', h1, h2, fun e => lift _ (h3 e), fun e r hr => lift r (h4 e r hr)⟩
    · have hnx : ¬ nextOk l (i : Int) (rd T (j : Int)) = true := fun e => by
        have := (nextOk_nat l i _ hi).mp e
        refine hok ⟨this.1, ?_⟩
        rcases this.2 with h | h
        · omega
        · exact h
      rw [if_neg hnx, tail_false]
      refine ⟨i, hp, hi, fun _ => ?_, fun e => by cases e⟩
      refine EvR.now 0 fun k _ => ?_
      rw [neonwrightref08_Read.l1, if_pos cj]
      by_cases h : i = l.length
      · have c : (i : Int) = (l.length : Int) := by omega
        rw [if_pos c]; rfl
      · have ci : ¬ (i : Int) = (l.length : Int) := by omega
        have ci2 : (i : Int) < (l.length : Int) := by omega
        have ne : ¬ rd l (i : Int) = rd T (j : Int) := fun e => hok ⟨by omega, e⟩
        rw [if_neg ci, if_pos ci0, if_pos ci2, if_pos cj0, if_neg ne]
        rfl

/-- The bytes from number i on. -/
def bytesFrom (p : List Int) : Nat → Nat → List Int
  | _, 0 => []
  | i, m + 1 => ((num ((p.drop (19 + 8 * i)).take 8) : Nat) : Int) :: bytesFrom p (i + 1) m
theorem data_bus (p : List Int) (hp : Bits01 p) (nb : Nat) (hlen : 34 + 8 * nb ≤ p.length) (hl : p.length ≤ 200) : ∀ (m i k : Nat) (out : List Int), nb - i = m → i ≤ nb → m < k → dataLoop p (nb : Int) k (i : Int) out = some (out ++ bytesFrom p i m)
  | 0, i, k, out, hm, hi, hk => by
    obtain ⟨k, rfl⟩ : ∃ j, k = j + 1 := ⟨k - 1, by omega⟩
    have c : ¬ (i : Int) < (nb : Int) := by omega
    rw [dataLoop, if_neg c]
    simp [bytesFrom]
  | m + 1, i, k, out, hm, hi, hk => by
    obtain ⟨k, rfl⟩ : ∃ j, k = j + 1 := ⟨k - 1, by omega⟩
    have c : (i : Int) < (nb : Int) := by omega
    have c2 : 27 + 8 * (i : Int) ≤ (p.length : Int) := by omega
    have e1 : (27 + 8 * (i : Int)).toNat = 27 + 8 * i := by omega
    have e2 : (19 + 8 * (i : Int)).toNat = 19 + 8 * i := by omega
    have e3 : (p.take (27 + 8 * i)).drop (19 + 8 * i) = (p.drop (19 + 8 * i)).take 8 := by
      rw [List.drop_take]
      congr 1
      omega
    have e4 : ((i : Int) + 1) = ((i + 1 : Nat) : Int) := by omega
    rw [dataLoop, if_pos c, if_pos c2, e1, e2, e3, bus_number_eq _ ((hp.drop _).take _) (by rw [List.length_take]; omega) 300 (by rw [List.length_take]; omega), Option.bind_some, e4, data_bus p hp nb hlen hl m (i + 1) k _ (by omega) (by omega) (by omega)]
    simp [bytesFrom]
theorem data_ref (p : List Int) (hp : Bits01 p) (hlen : 34 + 8 * nbS p ≤ p.length) (hl : p.length ≤ 200) (at_ : Nat) (no : Int) : ∀ (m i : Nat) (out : List Int), nbS p - i = m → i ≤ nbS p → out.length ≤ 1000 + i → EvR (fun k => neonwrightref08_Read.l2 k p (at_ : Int) (i : Int) no out) (some (no, out ++ bytesFrom p i m, (at_ : Int), 0))
  | 0, i, out, hm, hi, ho => by
    refine EvR.now 300 fun k hk => ?_
    have eN : neonwrightref08_number.f k p 15 4 = some ((nbS p : Nat) : Int) := ref_number_eq p hp (by omega) 15 4 (by omega) (by omega) k (by omega)
    have c : ¬ (i : Int) < ((nbS p : Nat) : Int) := by omega
    rw [neonwrightref08_Read.l2, eN, Option.bind_some, if_neg c]
    simp [bytesFrom]
  | m + 1, i, out, hm, hi, ho => by
    have hn := nbS_lt p hp
    have ih := data_ref p hp hlen hl at_ no m (i + 1) (out ++ [((num ((p.drop (19 + 8 * i)).take 8) : Nat) : Int)]) (by omega) (by omega) (by simp; omega)
    have er : out ++ bytesFrom p i (m + 1) = (out ++ [((num ((p.drop (19 + 8 * i)).take 8) : Nat) : Int)]) ++ bytesFrom p (i + 1) m := by simp [bytesFrom]
    rw [er]
    refine EvR.succ ih 300 fun k hk => ?_
    have eN : neonwrightref08_number.f k p 15 4 = some ((nbS p : Nat) : Int) := ref_number_eq p hp (by omega) 15 4 (by omega) (by omega) k (by omega)
    have e1 : wrap64 (19 + wrap64 (8 * (i : Int))) = ((19 + 8 * i : Nat) : Int) := by
      rw [w64 (8 * (i : Int)) (by omega) (by omega), w64 _ (by omega) (by omega)]; omega
    have eM : neonwrightref08_number.f k p ((19 + 8 * i : Nat) : Int) 8 = some ((num ((p.drop (19 + 8 * i)).take 8) : Nat) : Int) := ref_number_eq p hp (by omega) (19 + 8 * i) 8 (by omega) (by omega) k (by omega)
    have c : (i : Int) < ((nbS p : Nat) : Int) := by omega
    have c2 : out.length < 17592186044416 := by omega
    have f1 : i ≤ 1000000000 := by omega
    rw [neonwrightref08_Read.l2, eN, Option.bind_some, if_pos c, e1, eM, Option.bind_some, if_pos c2, nNext i f1]

theorem binB_bits (l : List Int) (h : binB l = true) : Bits01 l ∧ l.length ≤ 200 := by
  unfold binB at h
  simp only [Bool.and_eq_true, decide_eq_true_eq, Bool.not_eq_eq_eq_not, Bool.not_true] at h
  refine ⟨fun x hx => ?_, h.1⟩
  have := List.any_eq_false.1 h.2 x hx
  simp at this
  omega
theorem tailD_bits : Bits01 tailD := by unfold Bits01; decide
/-- Both Reads answer alike. -/
theorem Read_alike (l : List Int) (hll : l.length ≤ 300) : ∃ r, bus_Read.f l = some r ∧ EvR (fun k => neonwrightref08_Read.f k l) (some r) ∧ r.2.1.length ≤ 100 := by
  have eL : ∀ k, 400 ≤ k → neonwrightref08_Listed.f k l = some (binB l) := fun k hk => Listed_eq l (by omega) k (by omega)
  by_cases hbin : binB l = true
  · obtain ⟨hb, hl⟩ := binB_bits l hbin
    have hf : ∀ r, EvR (fun k => neonwrightref08_Read.l0 k l [] ((0 : Nat) : Int) ((0 : Nat) : Int)) r → EvR (fun k => neonwrightref08_Read.f k l) r := fun r ⟨K, hK⟩ => ⟨max K 400, fun k hk => by
      show neonwrightref08_Read.f k l = r
      rw [neonwrightref08_Read.f, eL k (by omega), Option.bind_some, if_pos hbin]
      exact hK k (by omega)⟩
    obtain ⟨ok, got, s, h1, i, h2, h3, h4, h5⟩ := read_loop l hb hl 199 [] ⟨0, 0, 0⟩ 0 0 (by simp) (by simp) (fun x hx => by simp at hx) (by omega) (Rd0 l) (by omega)
    have hbus : bus_Read.f l = (if (tailLoop l tailD ok s).1 = true then
      (if 12 ≤ got.length ∧ got.length ≤ 1000 then
      (bus_number.f 300 ((got.take 12).drop 1)).bind fun no =>
      (bus_bytesOf.f 300 got).bind fun n =>
      (dataLoop got n 20 0 []).bind fun d => some (no, d, (tailLoop l tailD ok s).2.pos, 0) else none)
      else some (0, [], (tailLoop l tailD ok s).2.pos, 5)) := by
      unfold bus_Read.f
      rw [binary_eq, Option.bind_some, if_pos hbin, h1, Option.bind_some]
    rw [hbus]
    cases ok with
    | false =>
      rw [tail_false, if_neg (by simp)]
      refine ⟨_, rfl, ?_, by simp⟩
      have := hf _ (h4 rfl)
      rw [badAt, ← h2] at this
      exact this
    | true =>
      obtain ⟨a1, a2, a3, a4⟩ := h5 rfl
      obtain ⟨i', b1, b2, b3, b4⟩ := tail_loop l got tailD tailD_bits (by decide) hl tailD.length 0 i s (by omega) (by omega) h3 h2
      rw [List.drop_zero] at b1 b3 b4
      cases ht : (tailLoop l tailD true s).1 with
      | false =>
        rw [if_neg (by simp)]
        refine ⟨_, rfl, ?_, by simp⟩
        have := hf _ (a4 _ (b3 ht))
        rw [badAt, ← b1] at this
        exact this
      | true =>
        have hlen : 34 + 8 * nbS got ≤ got.length := by
          have : ¬ got.length < 34 + 8 * nbS got := fun e => a3 (.inr e)
          omega
        have h19 : ¬ got.length < 19 := fun e => a3 (.inl e)
        have hn := nbS_lt got a1
        have e3 : (got.take 12).drop 1 = (got.drop 1).take 11 := by rw [List.drop_take]
        have eno : bus_number.f 300 ((got.take 12).drop 1) = some ((num ((got.drop 1).take 11) : Nat) : Int) := by
          rw [e3]; exact bus_number_eq _ ((a1.drop 1).take 11) (by rw [List.length_take]; omega) 300 (by rw [List.length_take]; omega)
        have enb : bus_bytesOf.f 300 got = some ((nbS got : Nat) : Int) := by rw [bytesOf_eq got a1 300 (by omega), if_neg h19]
        have ed : dataLoop got ((nbS got : Nat) : Int) 20 0 [] = some ([] ++ bytesFrom got 0 (nbS got)) := data_bus got a1 (nbS got) hlen (by omega) (nbS got) 0 20 [] (by omega) (by omega) (by omega)
        rw [if_pos rfl, if_pos ⟨by omega, by omega⟩, eno, Option.bind_some, enb, Option.bind_some, ed, Option.bind_some, b1]
        refine ⟨_, rfl, ?_, ?_⟩
        · refine hf _ (a4 _ (b4 ht _ ?_))
          refine EvR.succ (data_ref got a1 hlen (by omega) i' ((num ((got.drop 1).take 11) : Nat) : Int) (nbS got) 0 [] (by omega) (by omega) (by simp)) 300 fun k hk => ?_
          have c : ¬ (tailD.length : Int) < (tailD.length : Int) := by omega
          have eM : neonwrightref08_number.f k got 1 11 = some ((num ((got.drop 1).take 11) : Nat) : Int) := ref_number_eq got a1 (by omega) 1 11 (by omega) (by omega) k (by omega)
          rw [neonwrightref08_Read.l1, if_neg c, eM, Option.bind_some]
          rfl
        · have : ∀ m i, (bytesFrom got i m).length = m := by
            intro m
            induction m with
            | zero => intro i; rfl
            | succ m ih => intro i; rw [bytesFrom, List.length_cons, ih]
          show ([] ++ bytesFrom got 0 (nbS got)).length ≤ 100
          rw [List.nil_append, this]; omega
  · refine ⟨(0, [], 0, 2), ?_, ⟨400, fun k hk => ?_⟩, by simp⟩
    · unfold bus_Read.f
      rw [binary_eq, Option.bind_some, if_neg hbin]
    · show neonwrightref08_Read.f k l = _
      rw [neonwrightref08_Read.f, eL k hk, Option.bind_some, if_neg hbin]
end Go.Proofs.YtbanemecfobonaaDoor.B
