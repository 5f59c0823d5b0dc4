/- A set of numbers that a call keeps in a map from int to bool of its own. -/
import Derived.Test.YtfbibheeogcacaaDoorXC1
import Derived.Test.YtfbibheeogcacaaDoorBA
import Derived.Maps.Own
import Derived.Maps.OwnOps
import Derived.Maps.Views
namespace Go.Proofs.YtfbibheeogcacaaDoor.B
open Go.RowKit Go.Proofs.YtfbibheeogcacaaDoorW.PrintWords Go.Proofs.YtfbibheeogcacaaDoorW.PrintLast Go.Proofs.YtfbibheeogcacaaDoorW.PrintMore
set_option linter.unusedVariables false
set_option linter.unusedSimpArgs false

/-- The map at block b says true of the numbers of xs, and false of all others. -/
def Seen (w : World) (b n : Nat) (xs : List Int) : Prop :=
  ∃ D : DataW Unit, Maps.IsMap D ∧ w.ownsMap Tryd.prog 3 (plainElem Tryd.prog 4) b n D ∧ ∀ x : Int, (Lit.int .i64 x).wf = true → D.atKey (.int .i64 x) (.lit (.bool false)) = .lit (.bool (xs.contains x))

theorem Seen.made (w : World) : Seen (w.alloc (.map #[] 0)) w.heap.size 0 [] :=
  ⟨.map [], Maps.isMap_empty, World.ownsMap_made w _ _ _, fun x _ => rfl⟩

theorem plainElem_bool {e : TypeId} (he : Tryd.prog.underlying e = some .bool) (x : Bool) : plainElem (H := Unit) Tryd.prog e (.bool x) = some (.lit (.bool x), []) := by
  simp [plainElem, he]
theorem plainElem_bool_inv {e : TypeId} (he : Tryd.prog.underlying e = some .bool) {v : Value} {z : DataW Unit × List MemPlace} (h : plainElem Tryd.prog e v = some z) : ∃ x, v = .bool x ∧ z = (.lit (.bool x), []) := by
  unfold plainElem at h
  rw [he] at h
  cases v <;> simp at h
  exact ⟨_, rfl, h.symm⟩

theorem Seen.alloc {w : World} {b n : Nat} {xs : List Int} (h : Seen w b n xs) (o : Obj) : Seen (w.alloc o) b n xs := by
  obtain ⟨D, h1, h2, h3⟩ := h
  exact ⟨D, h1, h2.alloc o, h3⟩
theorem Seen.below {w w' : World} {b n : Nat} {xs : List Int} (h : Seen w b n xs) (hb : Below w.heap.size w w') : Seen w' b n xs := by
  obtain ⟨D, h1, ⟨es, clock, e1, e2, e3, e4⟩, h3⟩ := h
  exact ⟨D, h1, ⟨es, clock, blk_below e1 hb, e2, e3, e4⟩, h3⟩
theorem Seen.keep {w w' : World} {b n g : Nat} {xs : List Int} (h : Seen w b n xs) (hk : KeepBut w w' g none) (hne : b ≠ g) : Seen w' b n xs := by
  obtain ⟨D, h1, ⟨es, clock, e1, e2, e3, e4⟩, h3⟩ := h
  exact ⟨D, h1, ⟨es, clock, KeepBut.blk hk e1 hne (by simp), e2, e3, e4⟩, h3⟩
theorem Seen.lt {w : World} {b n : Nat} {xs : List Int} (h : Seen w b n xs) : b < w.heap.size := by
  obtain ⟨D, h1, ⟨es, clock, e1, e2, e3, e4⟩, h3⟩ := h
  exact blk_lt e1
theorem Seen.ne {w : World} {b n g : Nat} {xs : List Int} {cs : Array Value} {t : TypeId} {fr : Nat × Nat} (h : Seen w b n xs) (hg : w.heap[g]? = some (.cells cs t fr)) : b ≠ g := by
  rintro rfl
  obtain ⟨D, h1, ⟨es, clock, e1, e2, e3, e4⟩, h3⟩ := h
  rw [hg] at e1
  simp at e1

theorem wpList_lookup_seen (w : World) {ops : Array Oper} {rest : List Oper} {o : Oper} {a : Act} {Q : Exit → Act → World → Prop}
    (hg : o.guard = none) (m x : Operand) (hop : o.op = Op.lookup 61 m x false) (b n : Nat) (xs : List Int) (z : Int) (hz : (Lit.int .i64 z).wf = true)
    (hm : a.eval m = .map (some b)) (hs : Seen w b n xs) (hx : a.eval x = .int .i64 z)
    (hK : wpList Tryd.prog ops Q rest (a.put o.dst (.bool (xs.contains z))) w) :
    wpList Tryd.prog ops Q (o :: rest) a w := by
  refine wpList_plain hg fun K' hK' => ?_
  obtain ⟨D, h1, h2, h3⟩ := hs
  obtain ⟨v, ps, hrun, hv⟩ := h2.lookup (Maps.int_keyed Tryd.underlying3) Tryd.underlying61 (zd := .lit (.bool false)) (zp := []) (z := .bool false) (by kernel_rfl) (plainElem_bool Tryd.underlying4 false) (Maps.keyOf_int_mk Tryd.underlying3 hz)
  obtain ⟨c, rfl, hc⟩ := plainElem_bool_inv Tryd.underlying4 hv
  simp only [Prod.mk.injEq] at hc
  have hcc : c = xs.contains z := by
    have := (h3 z hz).symm.trans hc.1
    simpa using this.symm
  unfold Oper.wp
  simp [execOp, hop, hm, hx, hrun, Result.andThen]
  rw [hcc]
  exact hK' _ _ hK

theorem wpList_put_seen (w : World) {ops : Array Oper} {rest : List Oper} {o : Oper} {a : Act} {Q : Exit → Act → World → Prop}
    (hg : o.guard = none) (m x v : Operand) (hop : o.op = Op.mapUpdate 61 m x v) (b n : Nat) (xs : List Int) (z : Int) (hz : (Lit.int .i64 z).wf = true)
    (hm : a.eval m = .map (some b)) (hs : Seen w b n xs) (hn : n < maxLen) (hx : a.eval x = .int .i64 z) (hv : a.eval v = .bool true)
    (hK : ∀ w', Seen w' b (n + 1) (z :: xs) → w.grownBy w' (some b) → wpList Tryd.prog ops Q rest (a.put o.dst undef) w') :
    wpList Tryd.prog ops Q (o :: rest) a w := by
  obtain ⟨D, h1, h2, h3⟩ := hs
  refine wpList_mapUpdate_own w hg m x v 61 hop 3 4 (Maps.int_keyed Tryd.underlying3) Tryd.underlying61 (plainElem Tryd.prog 4) b n D hm h2 hn (.int .i64 z) (.bool true) (.int .i64 z) hx hv (Maps.keyOf_int_mk Tryd.underlying3 hz) (.lit (.bool true)) [] (plainElem_bool Tryd.underlying4 true) fun w' h2' hgr => hK w' ⟨_, ?_, h2', fun y hy => ?_⟩ hgr
  · exact Maps.IsMap.put h1 _ _
  · by_cases he : y = z
    · subst he
      rw [Maps.atKey_put_same (k := .int .i64 y) h1 trivial]
      simp
    · rw [Maps.atKey_put_other (by simpa using he), h3 y hy]
      simp [he]
theorem Seen.lookup_run {W : World} {b n : Nat} {xs : List Int} {z : Int} (hz : (Lit.int .i64 z).wf = true) (hs : Seen W b n xs) :
    (Instr.lookup 61 (.map (some b)) (.int .i64 z) false).run Tryd.prog W = .ok (.bool (xs.contains z)) W := by
  obtain ⟨D, h1, h2, h3⟩ := hs
  obtain ⟨v, ps, hrun, hv⟩ := h2.lookup (Maps.int_keyed Tryd.underlying3) Tryd.underlying61 (zd := .lit (.bool false)) (zp := []) (z := .bool false) (by kernel_rfl) (plainElem_bool Tryd.underlying4 false) (Maps.keyOf_int_mk Tryd.underlying3 hz)
  obtain ⟨c, rfl, hc⟩ := plainElem_bool_inv Tryd.underlying4 hv
  simp only [Prod.mk.injEq] at hc
  have hcc : c = xs.contains z := by
    have := (h3 z hz).symm.trans hc.1
    simpa using this.symm
  rw [← hcc]
  exact hrun
/-- The first i numbers, the last one first. -/
def preL (l : List Int) : Nat → List Int
  | 0 => []
  | i + 1 => rd l (i : Int) :: preL l i
def sigV (n x : Int) : Bool := decide (0 ≤ x) && decide (x < shl .i64 1 n)
/-- Are the first i numbers different signs? -/
def sgB (n : Int) (l : List Int) : Nat → Bool
  | 0 => true
  | i + 1 => sgB n l i && (sigV n (rd l (i : Int)) && !(preL l i).contains (rd l (i : Int)))
theorem sgB_false (n : Int) (l : List Int) (j : Nat) (h : sgB n l j = false) : ∀ d, sgB n l (j + d) = false
  | 0 => h
  | d + 1 => by
    have ih := sgB_false n l j h d
    show (sgB n l (j + d) && _) = false
    rw [ih]; rfl
theorem sgB_to (n : Int) (l : List Int) (j m : Nat) (hjm : j ≤ m) (h : sgB n l j = false) : sgB n l m = false := by
  have := sgB_false n l j h (m - j)
  rwa [show j + (m - j) = m by omega] at this
def sgE (n : Int) (l : List Int) : Int := if n < 1 ∨ 12 < n then 2 else if 200 < (l.length : Int) then 3 else if sgB n l l.length = true then 0 else 2
theorem sign_ev (n x : Int) (hn : 0 ≤ n) : code_sign.f n x = some (sigV n x) := by
  unfold code_sign.f sigV
  by_cases c : x ≥ 0
  · rw [if_pos c, if_pos hn, decide_eq_true (show 0 ≤ x from c), Bool.true_and]
  · rw [if_neg c, decide_eq_false (show ¬ 0 ≤ x from c), Bool.false_and]
set_option maxHeartbeats 2000000 in
set_option maxRecDepth 100000 in
theorem code_signs.calls0 (n : Int) (A0 : Option Addr) (c0 : Nat) (l : List Int) (w : World) (hr0 : Kd.C (Kd.int .i64) w A0 l.length l) (hok : ∀ i : Nat, i < l.length → -9223372036854775808 ≤ rd l (i : Int) ∧ rd l (i : Int) ≤ 9223372036854775807) :
    Calls Tryd.prog 16 #[.int .i64 n, .slice A0 l.length c0] w fun e w' => e = .returned (.int .i64 (sgE n l)) ∧ Below w.heap.size w w' := by
  obtain ⟨res, hres⟩ : ∃ r, r = sgE n l := ⟨_, rfl⟩
  rw [← hres]
  unfold sgE at hres
  have HR := Aside0.mk hr0
  have HOK := Aside0.mk hok
  have hlen : (l.length : Int) ≤ 9223372036854775807 := by have := hr0.2.1; omega
  have HS : Aside0 (∀ W, Calls Tryd.prog 29 #[.int .i64 n] W fun e w' => e = .returned (.bool (decide (1 ≤ n) && decide (n ≤ 12))) ∧ Drawn0 W w') := ⟨fun W => code_sized.calls n _ W (by
    unfold code_sized.f
    by_cases c : n ≥ 1
    · rw [if_pos c, decide_eq_true (show 1 ≤ n from c), Bool.true_and]
    · rw [if_neg c, decide_eq_false (show ¬ 1 ≤ n from c), Bool.false_and])⟩
  clear hr0 hok
  by_cases c1 : n < 1 ∨ 12 < n
  · rw [if_pos c1] at hres
    have hb : (decide (1 ≤ n) && decide (n ≤ 12)) = false := by
      rcases c1 with c | c
      · rw [decide_eq_false (show ¬ 1 ≤ n by omega)]; rfl
      · rw [decide_eq_false (show ¬ n ≤ 12 by omega), Bool.and_false]
    rw [hb] at HS
    subst hres
    clear c1 hb HR HOK
    go_enter Tryd.func16, Tryd.ntmps16
    go_wp2_with (first | (go_at_call 29; refine (HS.out _).mono ?_; rintro e w1 ⟨rfl, ⟨nd, rfl⟩⟩))
    go_ret
    exact ⟨rfl, by repeat (first | exact Below.refl _ _ | apply pw_below_drewN)⟩
  rw [if_neg c1] at hres
  have hb : (decide (1 ≤ n) && decide (n ≤ 12)) = true := by rw [decide_eq_true (show 1 ≤ n by omega), decide_eq_true (show n ≤ 12 by omega)]; rfl
  rw [hb] at HS
  have hn0 : 0 ≤ n := by omega
  have HSG : Aside0 (∀ x W, Calls Tryd.prog 30 #[.int .i64 n, .int .i64 x] W fun e w' => e = .returned (.bool (sigV n x)) ∧ Drawn0 W w') := ⟨fun x W => code_sign.calls n x _ W (sign_ev n x hn0)⟩
  clear hb c1 hn0
  by_cases c2 : 200 < (l.length : Int)
  · rw [if_pos c2] at hres
    have t2 := decide_eq_true c2
    subst hres
    clear HR HOK HSG
    go_enter Tryd.func16, Tryd.ntmps16
    go_wp2_with (first | (go_at_call 29; refine (HS.out _).mono ?_; rintro e w1 ⟨rfl, ⟨nd, rfl⟩⟩))
    go_ret
    exact ⟨rfl, by repeat (first | exact Below.refl _ _ | apply pw_below_drewN)⟩
  rw [if_neg c2] at hres
  have t2 : decide (200 < (l.length : Int)) = false := decide_eq_false c2
  have HRES := Aside0.mk hres
  clear hres
  have hl200 : l.length ≤ 200 := by omega
  clear c2
  have hmk : ∀ w : World, (Instr.makeMap 61 none).run Tryd.prog w = .ok (.map (some w.heap.size)) (w.alloc (.map #[] 0)) := fun w => by kernel_rfl
  go_enter Tryd.func16, Tryd.ntmps16
  go_wp2_with (first | (go_at_call 29; refine (HS.out _).mono ?_; rintro e w1 ⟨rfl, ⟨nd, rfl⟩⟩))
  clear hmk
  have S0 : Aside0 (Seen ((w.drewN nd).alloc (.map #[] 0)) w.heap.size 0 (preL l 0)) := ⟨Seen.made (w.drewN nd)⟩
  have B0 : Aside0 (Below w.heap.size w ((w.drewN nd).alloc (.map #[] 0))) := ⟨below_alloc (pw_below_drewN (Below.refl _ _) nd) _⟩
  generalize hgm : w.heap.size = gm at S0 ⊢
  have HGM : Aside0 (w.heap.size ≤ gm) := ⟨by omega⟩
  clear hgm
  generalize (w.drewN nd).alloc (.map #[] 0) = w1 at S0 B0 ⊢
  go_loopg [19] l.length (fun gk v19 w' => ∃ i : Nat, v19 = .int .i64 (i : Int) ∧ i ≤ l.length ∧ Aside0 (gk = l.length - i) ∧ Aside0 (sgB n l i = true) ∧ Aside0 (Seen w' gm i (preL l i)) ∧ Aside0 (Below w.heap.size w w'))
  case atStart => exact ⟨0, rfl, by omega, ⟨rfl⟩, ⟨rfl⟩, S0, B0⟩
  case round =>
    clear S0 B0
    obtain ⟨i, rfl, hi, HK, HI, HSE, HB⟩ := hrel
    by_cases hlt : i < l.length
    · obtain ⟨ad, e0, hx⟩ := Kd.at_int (Kd.C_below HR.out HB.out) (i : Int) (by omega) (by omega)
      cases e0
      rw [Int.toNat_natCast] at hx
      obtain ⟨b0, b1⟩ := HOK.out i hlt
      have HN : Aside0 (sgB n l (i + 1) = (sigV n (rd l (i : Int)) && !(preL l i).contains (rd l (i : Int))) ∧ preL l (i + 1) = rd l (i : Int) :: preL l i) := ⟨⟨by show (sgB n l i && _) = _; rw [HI.out, Bool.true_and], rfl⟩⟩
      have HG : Aside0 (sgB n l (i + 1) = false → res = 2) := ⟨fun h => by rw [HRES.out, sgB_to n l (i + 1) l.length (by omega) h]; rfl⟩
      generalize rd l (i : Int) = x at HN hx b0 b1
      have hwf : (Lit.int .i64 x).wf = true := by simp only [Lit.wf, Bool.and_eq_true, decide_eq_true_eq]; exact ⟨b0, b1⟩
      have HWF := Aside0.mk hwf
      have HC30 := Aside0.mk (HSG.out x)
      obtain ⟨sv, hsv⟩ : ∃ sv, sigV n x = sv := ⟨_, rfl⟩
      rw [hsv] at HC30 HN
      clear hsv hwf b0 b1
      cases sv
      · have hr := HG.out (by rw [HN.out.1]; rfl)
        have HRS := Aside0.mk hr
        clear hr HG HN
        go_wp2_with (first | (go_at_call 30; refine (HC30.out _).mono ?_; rintro e w2 ⟨rfl, ⟨nd2, rfl⟩⟩))
        go_ret
        exact ⟨by rw [HRS.out]; first | rfl | simp, pw_below_drewN HB.out nd2⟩
      · have hlk : ∀ nd2, (Instr.lookup 61 (.map (some gm)) (.int .i64 x) false).run Tryd.prog (wr.drewN nd2) = .ok (.bool ((preL l i).contains x)) (wr.drewN nd2) := fun nd2 => Seen.lookup_run HWF.out (HSE.out.below (pw_below_drewN (Below.refl _ _) nd2))
        obtain ⟨pv, hpv⟩ : ∃ pv, (preL l i).contains x = pv := ⟨_, rfl⟩
        rw [hpv] at hlk HN
        clear hpv
        cases pv
        · go_upto_region 11 with (first | (go_at_call 30; refine (HC30.out _).mono ?_; rintro e w2 ⟨rfl, ⟨nd2, rfl⟩⟩))
          have HS2 := Aside0.mk (HSE.out.below (pw_below_drewN (Below.refl _ _) nd2))
          have HB2 := Aside0.mk (pw_below_drewN HB.out nd2)
          have HKM : Aside0 (i < maxLen) := ⟨by unfold maxLen; omega⟩
          clear hlk HSE HB HC30
          generalize wr.drewN nd2 = w3 at *
          go_wp2_with (first | (at_mapUpdate; refine wpList_put_seen _ rfl _ _ _ rfl gm i (preL l i) x HWF.out rfl HS2.out HKM.out rfl rfl ?_))
          intro w4 hs4 hg4
          have HB4 : Aside0 (Below w.heap.size w w4) := ⟨HB2.out.grown hg4 HB2.out.size (fun k hk => by have e2 := Option.some.inj hk; have := HGM.out; omega)⟩
          have HS4 := Aside0.mk hs4
          clear hs4 hg4
          go_wp2
          go_roundg (l.length - (i + 1))
          case measure => have := HK.out; omega
          case rel => exact ⟨i + 1, by go_num, by omega, ⟨rfl⟩, ⟨by rw [HN.out.1]; rfl⟩, ⟨by rw [HN.out.2]; exact HS4.out⟩, HB4⟩
        · have hr := HG.out (by rw [HN.out.1]; rfl)
          have HRS := Aside0.mk hr
          clear hr HG HN
          go_wp2_with (first | (go_at_call 30; refine (HC30.out _).mono ?_; rintro e w2 ⟨rfl, ⟨nd2, rfl⟩⟩))
          go_ret
          exact ⟨by rw [HRS.out]; first | rfl | simp, pw_below_drewN HB.out nd2⟩
    · obtain rfl : i = l.length := by omega
      have hr : res = 0 := by rw [HRES.out, HI.out]; rfl
      have HRS := Aside0.mk hr
      clear hr
      go_wp2
      go_ret
      exact ⟨by rw [HRS.out]; first | rfl | simp, HB.out⟩
end Go.Proofs.YtfbibheeogcacaaDoor.B
