/- A set of numbers that a call keeps in a map from int to bool of its own. -/
import Derived.Test.YtbanemecfobonaaDoorB0
import Derived.Maps.Own
import Derived.Maps.OwnOps
import Derived.Maps.Views
namespace Go.Proofs.YtbanemecfobonaaDoor.B
open Go.RowKit Go.Proofs.YtbanemecfobonaaDoorW.PrintWords Go.Proofs.YtbanemecfobonaaDoorW.PrintLast Go.Proofs.YtbanemecfobonaaDoorW.PrintMore
set_option linter.unusedVariables false
set_option linter.unusedSimpArgs false

/-- The map at block b says true of the numbers of xs, and false of all others. -/
def Seen (w : World) (b n : Nat) (xs : List Int) : Prop :=
  ∃ D : DataW Unit, Maps.IsMap D ∧ w.ownsMap Tryd.prog 3 (plainElem Tryd.prog 4) b n D ∧ ∀ x : Int, (Lit.int .i64 x).wf = true → D.atKey (.int .i64 x) (.lit (.bool false)) = .lit (.bool (xs.contains x))

theorem Seen.made (w : World) : Seen (w.alloc (.map #[] 0)) w.heap.size 0 [] :=
  ⟨.map [], Maps.isMap_empty, World.ownsMap_made w _ _ _, fun x _ => rfl⟩

theorem plainElem_bool {e : TypeId} (he : Tryd.prog.underlying e = some .bool) (x : Bool) : plainElem (H := Unit) Tryd.prog e (.bool x) = some (.lit (.bool x), []) := by
  simp [plainElem, he]
theorem plainElem_bool_inv {e : TypeId} (he : Tryd.prog.underlying e = some .bool) {v : Value} {z : DataW Unit × List MemPlace} (h : plainElem Tryd.prog e v = some z) : ∃ x, v = .bool x ∧ z = (.lit (.bool x), []) := by
  unfold plainElem at h
  rw [he] at h
  cases v <;> simp at h
  exact ⟨_, rfl, h.symm⟩

theorem Seen.alloc {w : World} {b n : Nat} {xs : List Int} (h : Seen w b n xs) (o : Obj) : Seen (w.alloc o) b n xs := by
  obtain ⟨D, h1, h2, h3⟩ := h
  exact ⟨D, h1, h2.alloc o, h3⟩
theorem Seen.below {w w' : World} {b n : Nat} {xs : List Int} (h : Seen w b n xs) (hb : Below w.heap.size w w') : Seen w' b n xs := by
  obtain ⟨D, h1, ⟨es, clock, e1, e2, e3, e4⟩, h3⟩ := h
  exact ⟨D, h1, ⟨es, clock, blk_below e1 hb, e2, e3, e4⟩, h3⟩
theorem Seen.keep {w w' : World} {b n g : Nat} {xs : List Int} (h : Seen w b n xs) (hk : KeepBut w w' g none) (hne : b ≠ g) : Seen w' b n xs := by
  obtain ⟨D, h1, ⟨es, clock, e1, e2, e3, e4⟩, h3⟩ := h
  exact ⟨D, h1, ⟨es, clock, KeepBut.blk hk e1 hne (by simp), e2, e3, e4⟩, h3⟩
theorem Seen.lt {w : World} {b n : Nat} {xs : List Int} (h : Seen w b n xs) : b < w.heap.size := by
  obtain ⟨D, h1, ⟨es, clock, e1, e2, e3, e4⟩, h3⟩ := h
  exact blk_lt e1
theorem Seen.ne {w : World} {b n g : Nat} {xs : List Int} {cs : Array Value} {t : TypeId} {fr : Nat × Nat} (h : Seen w b n xs) (hg : w.heap[g]? = some (.cells cs t fr)) : b ≠ g := by
  rintro rfl
  obtain ⟨D, h1, ⟨es, clock, e1, e2, e3, e4⟩, h3⟩ := h
  rw [hg] at e1
  simp at e1

theorem wpList_lookup_seen (w : World) {ops : Array Oper} {rest : List Oper} {o : Oper} {a : Act} {Q : Exit → Act → World → Prop}
    (hg : o.guard = none) (m x : Operand) (hop : o.op = Op.lookup 87 m x false) (b n : Nat) (xs : List Int) (z : Int) (hz : (Lit.int .i64 z).wf = true)
    (hm : a.eval m = .map (some b)) (hs : Seen w b n xs) (hx : a.eval x = .int .i64 z)
    (hK : wpList Tryd.prog ops Q rest (a.put o.dst (.bool (xs.contains z))) w) :
    wpList Tryd.prog ops Q (o :: rest) a w := by
  refine wpList_plain hg fun K' hK' => ?_
  obtain ⟨D, h1, h2, h3⟩ := hs
  obtain ⟨v, ps, hrun, hv⟩ := h2.lookup (Maps.int_keyed Tryd.underlying3) Tryd.underlying87 (zd := .lit (.bool false)) (zp := []) (z := .bool false) (by kernel_rfl) (plainElem_bool Tryd.underlying4 false) (Maps.keyOf_int_mk Tryd.underlying3 hz)
  obtain ⟨c, rfl, hc⟩ := plainElem_bool_inv Tryd.underlying4 hv
  simp only [Prod.mk.injEq] at hc
  have hcc : c = xs.contains z := by
    have := (h3 z hz).symm.trans hc.1
    simpa using this.symm
  unfold Oper.wp
  simp [execOp, hop, hm, hx, hrun, Result.andThen]
  rw [hcc]
  exact hK' _ _ hK

theorem wpList_put_seen (w : World) {ops : Array Oper} {rest : List Oper} {o : Oper} {a : Act} {Q : Exit → Act → World → Prop}
    (hg : o.guard = none) (m x v : Operand) (hop : o.op = Op.mapUpdate 87 m x v) (b n : Nat) (xs : List Int) (z : Int) (hz : (Lit.int .i64 z).wf = true)
    (hm : a.eval m = .map (some b)) (hs : Seen w b n xs) (hn : n < maxLen) (hx : a.eval x = .int .i64 z) (hv : a.eval v = .bool true)
    (hK : ∀ w', Seen w' b (n + 1) (z :: xs) → w.grownBy w' (some b) → wpList Tryd.prog ops Q rest (a.put o.dst undef) w') :
    wpList Tryd.prog ops Q (o :: rest) a w := by
  obtain ⟨D, h1, h2, h3⟩ := hs
  refine wpList_mapUpdate_own w hg m x v 87 hop 3 4 (Maps.int_keyed Tryd.underlying3) Tryd.underlying87 (plainElem Tryd.prog 4) b n D hm h2 hn (.int .i64 z) (.bool true) (.int .i64 z) hx hv (Maps.keyOf_int_mk Tryd.underlying3 hz) (.lit (.bool true)) [] (plainElem_bool Tryd.underlying4 true) fun w' h2' hgr => hK w' ⟨_, ?_, h2', fun y hy => ?_⟩ hgr
  · exact Maps.IsMap.put h1 _ _
  · by_cases he : y = z
    · subst he
      rw [Maps.atKey_put_same (k := .int .i64 y) h1 trivial]
      simp
    · rw [Maps.atKey_put_other (by simpa using he), h3 y hy]
      simp [he]
theorem Seen.lookup_run {W : World} {b n : Nat} {xs : List Int} {z : Int} (hz : (Lit.int .i64 z).wf = true) (hs : Seen W b n xs) :
    (Instr.lookup 87 (.map (some b)) (.int .i64 z) false).run Tryd.prog W = .ok (.bool (xs.contains z)) W := by
  obtain ⟨D, h1, h2, h3⟩ := hs
  obtain ⟨v, ps, hrun, hv⟩ := h2.lookup (Maps.int_keyed Tryd.underlying3) Tryd.underlying87 (zd := .lit (.bool false)) (zp := []) (z := .bool false) (by kernel_rfl) (plainElem_bool Tryd.underlying4 false) (Maps.keyOf_int_mk Tryd.underlying3 hz)
  obtain ⟨c, rfl, hc⟩ := plainElem_bool_inv Tryd.underlying4 hv
  simp only [Prod.mk.injEq] at hc
  have hcc : c = xs.contains z := by
    have := (h3 z hz).symm.trans hc.1
    simpa using this.symm
  rw [← hcc]
  exact hrun
end Go.Proofs.YtbanemecfobonaaDoor.B
