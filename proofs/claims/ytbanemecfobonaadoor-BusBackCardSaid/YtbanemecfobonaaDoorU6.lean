/- Plain facts on the program's reader. -/
import Derived.Test.YtbanemecfobonaaDoorU5
import Derived.Test.YtbanemecfobonaaDoorX3r
namespace Go.Proofs.YtbanemecfobonaaDoor.B
open Go.RowKit Go.Proofs.YtbanemecfobonaaDoorW.PrintWords Go.Proofs.YtbanemecfobonaaDoorW.PrintLast Go.Proofs.YtbanemecfobonaaDoorW.PrintMore
set_option linter.unusedVariables false
set_option linter.unusedSimpArgs false

abbrev Ans := Int × List Int × Int × Int
/-- The answer to bits that no frame can have. -/
def badAt (i : Nat) : Option Ans := some (0, ([] : List Int), (i : Int), 5)

/-- What the reader knows when i bits are read, of which run came last alike. -/
def RdAt (l : List Int) (i run : Nat) (s : Rd) : Prop :=
  s.pos = (i : Int) ∧ s.many = (run : Int) ∧ (i = 0 ∧ run = 0 ∨ 1 ≤ i ∧ 1 ≤ run ∧ s.bit = rd l ((i - 1 : Nat) : Int))
/-- How many come last alike when bit i is read, too. -/
def runN (l : List Int) (i run : Nat) : Nat := if 0 < i ∧ rd l (i : Int) = rd l ((i - 1 : Nat) : Int) then run + 1 else 1
theorem RdAt.step {l : List Int} {i run : Nat} {s : Rd} (h : RdAt l i run s) (hr : run ≤ 10) (hi : i ≤ 1000) : RdAt l (i + 1) (runN l i run) (s.step l) := by
  obtain ⟨h1, h2, h3⟩ := h
  have hb : put1 s.bit s.many (rd l s.pos) = (rd l (i : Int), ((runN l i run : Nat) : Int)) := by
    rw [h1, h2]
    unfold put1 runN
    rcases h3 with ⟨rfl, rfl⟩ | ⟨h4, h5, h6⟩
    · rw [if_neg (by decide), if_neg (by omega)]; rfl
    · rw [if_pos (by omega), h6]
      by_cases he : rd l (i : Int) = rd l ((i - 1 : Nat) : Int)
      · rw [if_pos he.symm, if_pos ⟨by omega, he⟩, w64 _ (by omega) (by omega), he]
        congr 1
      · rw [if_neg (fun e => he e.symm), if_neg (fun e => he e.2)]; rfl
  refine ⟨?_, ?_, .inr ⟨by omega, ?_, ?_⟩⟩
  · show s.pos + 1 = _
    omega
  · show (put1 s.bit s.many (rd l s.pos)).2 = _
    rw [hb]
  · unfold runN; split <;> omega
  · show (put1 s.bit s.many (rd l s.pos)).1 = _
    rw [hb]
    rfl
theorem nextOk_nat (l : List Int) (i : Nat) (want : Int) (hi : i ≤ l.length) : nextOk l (i : Int) want = true ↔ i < l.length ∧ (want < 0 ∨ rd l (i : Int) = want) := by
  unfold nextOk
  by_cases h : i = l.length
  · simp [h]
  · have e : ((i : Int) == (l.length : Int)) = false := by simp; omega
    rw [e]
    simp
    omega

theorem cond_eq (got : List Int) (hb : Bits01 got) (hl : got.length ≤ 200) : ∃ n : Int, bus_bytesOf.f 300 got = some n ∧ ((got.length : Int) < wrap64 (34 + wrap64 (8 * n)) ↔ goesOn got) := by
  have hn := nbS_lt got hb
  by_cases h : got.length < 19
  · refine ⟨9, by rw [bytesOf_eq got hb 300 (by omega), if_pos h], ?_⟩
    have e : wrap64 (34 + wrap64 (8 * 9)) = 106 := by unfold wrap64; omega
    rw [e]
    exact ⟨fun _ => .inl h, fun _ => by omega⟩
  · refine ⟨((nbS got : Nat) : Int), by rw [bytesOf_eq got hb 300 (by omega), if_neg h], ?_⟩
    have e : wrap64 (34 + wrap64 (8 * ((nbS got : Nat) : Int))) = ((34 + 8 * nbS got : Nat) : Int) := by
      rw [w64 (8 * ((nbS got : Nat) : Int)) (by omega) (by omega), w64 _ (by omega) (by omega)]; omega
    rw [e]
    refine ⟨fun h1 => .inr (by omega), fun h1 => ?_⟩
    rcases h1 with h1 | h1
    · exact absurd h1 h
    · omega
theorem Rd0 (l : List Int) : RdAt l 0 0 ⟨0, 0, 0⟩ := ⟨rfl, rfl, .inl ⟨rfl, rfl⟩⟩


theorem tail_false (l : List Int) : ∀ (t : List Int) (s : Rd), tailLoop l t false s = (false, s)
  | [], s => rfl
  | b :: t, s => by rw [tailLoop, if_neg (by simp)]; exact tail_false l t s
/-- The bytes from number i on. -/
def bytesFrom (p : List Int) : Nat → Nat → List Int
  | _, 0 => []
  | i, m + 1 => ((num ((p.drop (19 + 8 * i)).take 8) : Nat) : Int) :: bytesFrom p (i + 1) m
theorem data_bus (p : List Int) (hp : Bits01 p) (nb : Nat) (hlen : 34 + 8 * nb ≤ p.length) (hl : p.length ≤ 200) : ∀ (m i k : Nat) (out : List Int), nb - i = m → i ≤ nb → m < k → dataLoop p (nb : Int) k (i : Int) out = some (out ++ bytesFrom p i m)
  | 0, i, k, out, hm, hi, hk => by
    obtain ⟨k, rfl⟩ : ∃ j, k = j + 1 := ⟨k - 1, by omega⟩
    have c : ¬ (i : Int) < (nb : Int) := by omega
    rw [dataLoop, if_neg c]
    simp [bytesFrom]
  | m + 1, i, k, out, hm, hi, hk => by
    obtain ⟨k, rfl⟩ : ∃ j, k = j + 1 := ⟨k - 1, by omega⟩
    have c : (i : Int) < (nb : Int) := by omega
    have c2 : 27 + 8 * (i : Int) ≤ (p.length : Int) := by omega
    have e1 : (27 + 8 * (i : Int)).toNat = 27 + 8 * i := by omega
    have e2 : (19 + 8 * (i : Int)).toNat = 19 + 8 * i := by omega
    have e3 : (p.take (27 + 8 * i)).drop (19 + 8 * i) = (p.drop (19 + 8 * i)).take 8 := by
      rw [List.drop_take]
      congr 1
      omega
    have e4 : ((i : Int) + 1) = ((i + 1 : Nat) : Int) := by omega
    rw [dataLoop, if_pos c, if_pos c2, e1, e2, e3, bus_number_eq _ ((hp.drop _).take _) (by rw [List.length_take]; omega) 300 (by rw [List.length_take]; omega), Option.bind_some, e4, data_bus p hp nb hlen hl m (i + 1) k _ (by omega) (by omega) (by omega)]
    simp [bytesFrom]
theorem binB_bits (l : List Int) (h : binB l = true) : Bits01 l ∧ l.length ≤ 200 := by
  unfold binB at h
  simp only [Bool.and_eq_true, decide_eq_true_eq, Bool.not_eq_eq_eq_not, Bool.not_true] at h
  refine ⟨fun x hx => ?_, h.1⟩
  have := List.any_eq_false.1 h.2 x hx
  simp at this
  omega
theorem tailD_bits : Bits01 tailD := by unfold Bits01; decide
end Go.Proofs.YtbanemecfobonaaDoor.B
