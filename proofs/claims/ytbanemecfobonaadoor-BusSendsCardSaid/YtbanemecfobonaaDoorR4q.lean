/- Written by a program (lite.py) from my texts. -/
import Derived.Test.YtbanemecfobonaaDoorR2q
namespace Go.Proofs.YtbanemecfobonaaDoor.B
open Go.Proofs.YtbanemecfobonaaDoorW.PrintWords Go.Proofs.YtbanemecfobonaaDoorW.PrintLast Go.Proofs.YtbanemecfobonaaDoorW.PrintMore Go.ChangeShapes Go.WideShapes Go.ChangeAt Go.RowKit Go.Joins Go.Deep
set_option linter.unusedVariables false
section
variable {H : Type} {enc : TypeId × Value → H} {w : World} {base : Nat} {held : Bool}
set_option maxRecDepth 100000 in
theorem messages_of_trod {fuel : Nat} {v : Value} {x : DataW H × List MemPlace} (h : DataW.trod enc Tryd.prog w base (fun _ => true) held fuel 46 [v] = some x) :
    ∃ (A : Option Addr) (l : List S55) (c : Nat), v = .slice A l.length c ∧ Kd.C k55 w A l.length l ∧ l.length ≤ c ∧ l.length ≤ maxLen := by
  (refine rows_of_trod k55 z55 46 55 Tryd.underlying46 (by kernel_rfl) (fun fuel cs x hcl ht => ?_) h); (obtain ⟨xs, n, _, rfl, hl, hlen, hf⟩ := DataW.trod_struct Tryd.underlying55 ht); (have hc1 : Tryd.prog.cellsOf 3 = 1 := by kernel_rfl); (have hsz : k55.sz = 4 := rfl); rw [hsz] at hcl
  match xs, hlen with
  | [y0, y1, y2, y3], _ =>
    match cs, hcl with
    | [v0, v1, v2, v3], _ =>
      have h0 : DataW.trod enc Tryd.prog w base (fun _ => true) held n 3 [v0] = some y0 := by
        have := hf 0 _ rfl
        simpa [hc1] using this
      have h1 : DataW.trod enc Tryd.prog w base (fun _ => true) held n 3 [v1] = some y1 := by
        have := hf 1 _ rfl
        simpa [hc1] using this
      have h2 : DataW.trod enc Tryd.prog w base (fun _ => true) held n 3 [v2] = some y2 := by
        have := hf 2 _ rfl
        simpa [hc1] using this
      have h3 : DataW.trod enc Tryd.prog w base (fun _ => true) held n 3 [v3] = some y3 := by
        have := hf 3 _ rfl
        simpa [hc1] using this
      obtain ⟨a, e0, _, _⟩ := DataW.trod_int Tryd.underlying3 h0
      obtain ⟨b, e1, _, _⟩ := DataW.trod_int Tryd.underlying3 h1
      obtain ⟨c, e2, _, _⟩ := DataW.trod_int Tryd.underlying3 h2
      obtain ⟨d, e3, _, _⟩ := DataW.trod_int Tryd.underlying3 h3
      replace e0 : v0 = .int .i64 a := by simpa using e0
      replace e1 : v1 = .int .i64 b := by simpa using e1
      replace e2 : v2 = .int .i64 c := by simpa using e2
      replace e3 : v3 = .int .i64 d := by simpa using e3
      subst e0 e1 e2 e3
      exact ⟨⟨a, b, c, d⟩, k55_mk w ⟨a, b, c, d⟩⟩
set_option maxRecDepth 100000 in
theorem lists_of_trod {fuel : Nat} {v : Value} {x : DataW H × List MemPlace} (h : DataW.trod enc Tryd.prog w base (fun _ => true) held fuel 68 [v] = some x) :
    ∃ (A : Option Addr) (l : List (List Int)) (c : Nat), v = .slice A l.length c ∧ Kd.C (Kd.slice 3 (Kd.int .i64)) w A l.length l ∧ l.length ≤ c ∧ l.length ≤ maxLen := by
  refine rows_of_trod (Kd.slice 3 (Kd.int .i64)) [] 68 22 Tryd.underlying68 (by kernel_rfl) (fun fuel cs x hcl ht => ?_) h
  have hsz : (Kd.slice 3 (Kd.int .i64)).sz = 1 := rfl
  rw [hsz] at hcl
  match cs, hcl with
  | [v0], _ =>
    obtain ⟨A, l, c, e2, hr, hc, _, _⟩ := ints_of_trod ht
    subst e2
    exact ⟨l, A, c, rfl, hc, hr⟩
end
end Go.Proofs.YtbanemecfobonaaDoor.B
