/- The bits of a frame, five equal ones in a row followed by an opposite one, and the tail of the package's own table. -/
import Derived.Test.YtbanemecfobonaaDoorX1
import Derived.Test.YtbanemecfobonaaDoorBA
namespace Go.Proofs.YtbanemecfobonaaDoor.B
open Go.RowKit Go.Proofs.YtbanemecfobonaaDoorW.PrintWords Go.Proofs.YtbanemecfobonaaDoorW.PrintLast Go.Proofs.YtbanemecfobonaaDoorW.PrintMore
set_option linter.unusedVariables false
set_option linter.unusedSimpArgs false

/-- The last 13 bits. -/
def tailD : List Int := [1, 0, 1, 1, 1, 1, 1, 1, 1, 1, 1, 1, 1]
theorem tailD_length : tailD.length = 13 := rfl
/-- The package's table lies in memory as its text says. -/
def TailLaid (w : World) : Prop := ∃ A c, w.cell? ⟨0, 0, none⟩ = some (.slice A 13 c) ∧ 13 ≤ c ∧ Kd.C (Kd.int .i64) w A 13 tailD
theorem TailLaid.below {w w1 : World} (h : TailLaid w) (hb : Below w.heap.size w w1) : TailLaid w1 := by
  obtain ⟨A, c, hc, hl, hr⟩ := h
  exact ⟨A, c, pw_cell_below hb hc, hl, Kd.C_below hr hb⟩

/-- A bit behind a row of equal ones. -/
def put1 (bit many b : Int) : Int × Int := if many > 0 then (if bit = b then (bit, wrap64 (many + 1)) else (b, 1)) else (b, 1)
theorem put1_f (bit many b : Int) : bus_row_put.f bit many b = some ((put1 bit many b).1, (put1 bit many b).2) := by
  unfold bus_row_put.f put1
  split
  · split <;> rfl
  · rfl
/-- The bits, with what is put in. -/
def stuffed : List Int → Int → Int → List Int
  | [], _, _ => []
  | b :: l, bit, many =>
    if (put1 bit many b).2 = 5 then b :: wrap64 (1 - b) :: stuffed l (put1 (put1 bit many b).1 (put1 bit many b).2 (wrap64 (1 - b))).1 (put1 (put1 bit many b).1 (put1 bit many b).2 (wrap64 (1 - b))).2
    else b :: stuffed l (put1 bit many b).1 (put1 bit many b).2
def bus_bitsOf.f (a0 : Int) (l : List Int) : Option (List Int) := (bus_plain.f 300 a0 l).bind fun p => if p.length ≤ 1000 then some (stuffed p 0 0 ++ tailD) else none

theorem keepS78 {w0 W W1 : World} {g : Nat} {b m : Int} {base : Nat} {ok : Nat → Prop} {v : Value} {xs : List Int} (hI : IsS78 w0 W g b m) (hk : KeepBut W W1 g none) (ho : Kd.R (Kd.int .i64) 3 W base ok v xs) : Kd.R (Kd.int .i64) 3 W1 base ok v xs :=
  Kd.R_mono (Kd.R_keep (IsS78.apart hI ho (by decide)) hk (fun _ hk => hk.2)) (fun _ hk => hk.1)

set_option maxHeartbeats 8000000 in
set_option maxRecDepth 100000 in
theorem bus_bitsOf.calls (a0_0 : Int) (A0_1 : Option Addr) (c0_1 : Nat) (l0_1 : List Int) (r : List Int) (w : World) (hr0_1 : Kd.C (Kd.int .i64) w A0_1 l0_1.length l0_1) (hc0_1 : l0_1.length ≤ c0_1) (h : bus_bitsOf.f a0_0 l0_1 = some r) (ht : TailLaid w) :
    Calls Tryd.prog 45 #[.agg #[.int .i64 a0_0, .slice A0_1 l0_1.length c0_1]] w fun e w' => ∃ v0_ : Value, e = .returned (v0_) ∧ Kd.R (Kd.int .i64) 3 w' w.heap.size (fun _ => True) v0_ r ∧ Below w.heap.size w w' := by
  have HR0 := Aside0.mk hr0_1
  have HC0 := Aside0.mk hc0_1
  have HT := Aside0.mk ht
  have HB := Aside0.mk (Below.refl w.heap.size w)
  have hu24 := Tryd.underlying24
  clear hr0_1 hc0_1 ht
  unfold bus_bitsOf.f at h
  obtain ⟨p, hp, h⟩ := Option.bind_eq_some_iff.1 h
  have hpl : p.length ≤ 1000 := by
    rcases Nat.lt_or_ge 1000 p.length with hl | hl
    · rw [if_neg (by omega)] at h; exact absurd h (by simp)
    · exact hl
  rw [if_pos hpl] at h
  obtain rfl := Option.some.inj h
  have HP := Aside0.mk hp
  have HPL := Aside0.mk hpl
  clear h hp hpl
  go_enter Tryd.func45, Tryd.ntmps45
  go_wp2_with fail
  refine (bus_plain.calls 300 a0_0 _ _ l0_1 p _ ?s1 HC0.out HP.out).mono ?_
  case s1 => exact Kd.C_alloc (Kd.C_alloc HR0.out _) _
  rintro e w1 ⟨vp, rfl, hop, hb⟩
  have hB1 : Below w.heap.size w w1 := below_step (by repeat (first | exact HB.out | apply below_alloc)) hb
  have hS1 : IsS78 w w1 (w.heap.size + 1) 0 0 := by
    have h0 := IsS78.new w (w.alloc (.cells #[.int .i64 a0_0, .slice A0_1 l0_1.length c0_1] 24)) 0 0 (by repeat (first | exact HB.out | apply below_alloc))
    have h1 := IsS78.below h0 hb
    simpa using h1
  have hop1 : Kd.R (Kd.int .i64) 3 w1 w.heap.size (fun _ => True) vp p := Kd.R_lower hop (by simp; omega)
  clear HB hop hb
  have HB := Aside0.mk hB1
  have HI := Aside0.mk hS1
  have HOP := Aside0.mk hop1
  clear hB1 hS1 hop1
  obtain ⟨Ap, cp, rfl⟩ := Kd.R_slice HOP.out
  go_wp2_with fail
  go_loopg [3, 10] p.length (fun gq v3 v10 w' => ∃ (x : Int) (xs : List Int) (bit many : Int), v10 = .int .i64 x ∧ 0 ≤ x ∧ x ≤ p.length ∧ Aside0 (gq = p.length - x.toNat) ∧ Aside0 (xs ++ stuffed (p.drop x.toNat) bit many = stuffed p 0 0) ∧ Aside0 (xs.length ≤ 2 * x.toNat) ∧ Aside0 (IsS78 w w' (w.heap.size + 1) bit many) ∧ Aside0 (Kd.R (Kd.int .i64) 3 w' w.heap.size (fun k_ => True ∧ some k_ ≠ (v3 : Value).ownBlock) (.slice Ap p.length cp) p) ∧ Aside0 (Kd.R (Kd.int .i64) 3 w' w.heap.size (fun k_ => some k_ ≠ (.slice Ap p.length cp : Value).ownBlock) v3 xs) ∧ Aside0 (Below w.heap.size w w'))
  case atStart => exact ⟨0, [], 0, 0, rfl, by omega, by omega, ⟨by simp⟩, ⟨by simp⟩, ⟨by simp⟩, HI, ⟨Kd.R_mono HOP.out (fun _ hk => ⟨trivial, by simp [Value.ownBlock]⟩)⟩, ⟨Kd.R_nil _ _ _ _ _⟩, HB⟩
  case round =>
    clear HI HOP HB
    obtain ⟨x, xs, bit, many, rfl, hx0, hxl, HG, HE, HL, HI, HOp, HOo, HB⟩ := hrel
    have hpl9 : (p.length : Int) ≤ 1000 := by have := HPL.out; omega
    by_cases hlt : x < p.length
    · obtain ⟨ad, e0, hxc⟩ := Kd.at_int (Kd.R_reads' HOp.out).2.2 x hx0 hlt
      cases e0
      have hdrop : p.drop x.toNat = rd p x :: p.drop (x + 1).toNat := by
        have e1 : (x + 1).toNat = x.toNat + 1 := by omega
        have h1 : x.toNat < p.length := by omega
        rw [e1, List.drop_eq_getElem_cons h1]
        congr 1
        simp [rd, List.getD_eq_getElem?_getD, List.getElem?_eq_getElem h1]
      have HD := Aside0.mk hdrop
      clear hdrop
      by_cases h5 : (put1 bit many (rd p x)).2 = 5
      · have hb5 : ((put1 bit many (rd p x)).2 == 5) = true := beq_iff_eq.2 h5
        have H5 := Aside0.mk h5
        clear h5
        go_wp2_with ((with_reducible refine gate_builtin (b := .append) (xs := #[.tmp 14, .tmp 16]) rfl ?_); at_builtin; refine Kd.R_append (Kd.int .i64) (w0 := w) w.heap.size rfl (.tmp 14) (.tmp 16) 22 3 (.int .i64 0) 8 rfl Tryd.underlying22 info3 rfl (by decide) (by omega) u3 (xs) (rd p x) [.int .i64 (rd p x)] (fun k_ => some k_ ≠ (.slice (some ad) p.length cp : Value).ownBlock) (fun _ => False) rfl rfl ?aP (fun _ hk => hk.elim) ?aF ?aO ?aB ?aS ?aL ?_; (case aP => exact rfl); (case aB => exact HB.out); (case aF => exact (fun k_ hk => Kd.fresh' (Kd.R_lt HOp.out) k_ hk)); (case aO => exact HOo.out); (case aS => exact HB.out.size); (case aL => have := HL.out; have := HPL.out; simp; omega); intro v2 w2 ho1 hb1 hg1 hat1; have Ho2 := Aside0.mk ho1; have Hb2 := Aside0.mk hb1; have Hg2 := Aside0.mk hg1; have Ha2 := Aside0.mk hat1; clear ho1 hb1 hg1 hat1)
        have HOp2 := Aside0.mk (Kd.R_after (ok := fun _ => True) HOp.out Hg2.out Ha2.out)
        have HI2 := Aside0.mk (IsS78.grown HI.out Hg2.out (IsS78.own_ne HI.out HOo.out (by decide)))
        refine (bus_row_put.calls (w.heap.size + 1) (bit) (many) (rd p x) _ _ w _ HI2.out Hb2.out (put1_f _ _ _)).mono ?_
        rintro e w3 ⟨rfl, hi3, hb3, hk3⟩
        have HI3 := Aside0.mk hi3
        have Hb3 := Aside0.mk hb3
        have Ho3 := Aside0.mk (keepS78 HI2.out hk3 Ho2.out)
        have HOp3 := Aside0.mk (keepS78 HI2.out hk3 HOp2.out)
        clear hi3 hb3 hk3
        go_wp2_with fail
        refine (bus_row_full.calls (w.heap.size + 1) ((put1 bit many (rd p x)).1) ((put1 bit many (rd p x)).2) _ _ _ w _ HI3.out Hb3.out rfl).mono ?_
        rintro e w4 ⟨rfl, hi4, hb4, hk4⟩
        have HI4 := Aside0.mk hi4
        have Hb4 := Aside0.mk hb4
        have Ho4 := Aside0.mk (keepS78 HI3.out hk4 Ho3.out)
        have HOp4 := Aside0.mk (keepS78 HI3.out hk4 HOp3.out)
        clear hi4 hb4 hk4
        go_wp2_with ((with_reducible refine gate_builtin (b := .append) (xs := #[.tmp 21, .tmp 24]) rfl ?_); at_builtin; refine Kd.R_append (Kd.int .i64) (w0 := w) w.heap.size rfl (.tmp 21) (.tmp 24) 22 3 (.int .i64 0) 8 rfl Tryd.underlying22 info3 rfl (by decide) (by omega) v2 (xs ++ [rd p x]) (wrap64 (1 - rd p x)) [.int .i64 (wrap64 (1 - rd p x))] (fun k_ => some k_ ≠ (.slice (some ad) p.length cp : Value).ownBlock) (fun _ => False) rfl rfl ?aP (fun _ hk => hk.elim) ?aF ?aO ?aB ?aS ?aL ?_; (case aP => exact rfl); (case aB => exact Hb4.out); (case aF => exact (fun k_ hk => Kd.fresh' (Kd.R_lt HOp4.out) k_ hk)); (case aO => exact Ho4.out); (case aS => exact Hb4.out.size); (case aL => have := HL.out; have := HPL.out; simp; omega); intro v5 w5 ho1 hb1 hg1 hat1; have Ho5 := Aside0.mk ho1; have Hb5 := Aside0.mk hb1; have Hg5 := Aside0.mk hg1; have Ha5 := Aside0.mk hat1; clear ho1 hb1 hg1 hat1)
        have HOp5 := Aside0.mk (Kd.R_after (ok := fun _ => True) HOp4.out Hg5.out Ha5.out)
        have HI5 := Aside0.mk (IsS78.grown HI4.out Hg5.out (IsS78.own_ne HI4.out Ho4.out (by decide)))
        refine (bus_row_put.calls (w.heap.size + 1) ((put1 bit many (rd p x)).1) ((put1 bit many (rd p x)).2) (wrap64 (1 - rd p x)) _ _ w _ HI5.out Hb5.out (put1_f _ _ _)).mono ?_
        rintro e w6 ⟨rfl, hi6, hb6, hk6⟩
        have HI6 := Aside0.mk hi6
        have Hb6 := Aside0.mk hb6
        have Ho6 := Aside0.mk (keepS78 HI5.out hk6 Ho5.out)
        have HOp6 := Aside0.mk (keepS78 HI5.out hk6 HOp5.out)
        clear hi6 hb6 hk6
        go_wp2_with fail
        go_roundg (gk - 1)
        case measure => have := HG.out; omega
        case rel => exact ⟨x + 1, xs ++ [rd p x] ++ [wrap64 (1 - rd p x)], (put1 (put1 bit many (rd p x)).1 (put1 bit many (rd p x)).2 (wrap64 (1 - rd p x))).1, (put1 (put1 bit many (rd p x)).1 (put1 bit many (rd p x)).2 (wrap64 (1 - rd p x))).2, rfl, by omega, by omega, ⟨by have := HG.out; omega⟩, ⟨by rw [← HE.out, HD.out, stuffed, if_pos H5.out]; simp⟩, ⟨by have := HL.out; simp; omega⟩, HI6, HOp6, Ho6, Hb6⟩
      · have hb5 : ((put1 bit many (rd p x)).2 == 5) = false := beq_eq_false_iff_ne.2 h5
        have H5 := Aside0.mk h5
        clear h5
        go_wp2_with ((with_reducible refine gate_builtin (b := .append) (xs := #[.tmp 14, .tmp 16]) rfl ?_); at_builtin; refine Kd.R_append (Kd.int .i64) (w0 := w) w.heap.size rfl (.tmp 14) (.tmp 16) 22 3 (.int .i64 0) 8 rfl Tryd.underlying22 info3 rfl (by decide) (by omega) u3 (xs) (rd p x) [.int .i64 (rd p x)] (fun k_ => some k_ ≠ (.slice (some ad) p.length cp : Value).ownBlock) (fun _ => False) rfl rfl ?aP (fun _ hk => hk.elim) ?aF ?aO ?aB ?aS ?aL ?_; (case aP => exact rfl); (case aB => exact HB.out); (case aF => exact (fun k_ hk => Kd.fresh' (Kd.R_lt HOp.out) k_ hk)); (case aO => exact HOo.out); (case aS => exact HB.out.size); (case aL => have := HL.out; have := HPL.out; simp; omega); intro v2 w2 ho1 hb1 hg1 hat1; have Ho2 := Aside0.mk ho1; have Hb2 := Aside0.mk hb1; have Hg2 := Aside0.mk hg1; have Ha2 := Aside0.mk hat1; clear ho1 hb1 hg1 hat1)
        have HOp2 := Aside0.mk (Kd.R_after (ok := fun _ => True) HOp.out Hg2.out Ha2.out)
        have HI2 := Aside0.mk (IsS78.grown HI.out Hg2.out (IsS78.own_ne HI.out HOo.out (by decide)))
        refine (bus_row_put.calls (w.heap.size + 1) (bit) (many) (rd p x) _ _ w _ HI2.out Hb2.out (put1_f _ _ _)).mono ?_
        rintro e w3 ⟨rfl, hi3, hb3, hk3⟩
        have HI3 := Aside0.mk hi3
        have Hb3 := Aside0.mk hb3
        have Ho3 := Aside0.mk (keepS78 HI2.out hk3 Ho2.out)
        have HOp3 := Aside0.mk (keepS78 HI2.out hk3 HOp2.out)
        clear hi3 hb3 hk3
        go_wp2_with fail
        refine (bus_row_full.calls (w.heap.size + 1) ((put1 bit many (rd p x)).1) ((put1 bit many (rd p x)).2) _ _ _ w _ HI3.out Hb3.out rfl).mono ?_
        rintro e w4 ⟨rfl, hi4, hb4, hk4⟩
        have HI4 := Aside0.mk hi4
        have Hb4 := Aside0.mk hb4
        have Ho4 := Aside0.mk (keepS78 HI3.out hk4 Ho3.out)
        have HOp4 := Aside0.mk (keepS78 HI3.out hk4 HOp3.out)
        clear hi4 hb4 hk4
        go_wp2_with fail
        go_roundg (gk - 1)
        case measure => have := HG.out; omega
        case rel => exact ⟨x + 1, xs ++ [rd p x], (put1 bit many (rd p x)).1, (put1 bit many (rd p x)).2, rfl, by omega, by omega, ⟨by have := HG.out; omega⟩, ⟨by rw [← HE.out, HD.out, stuffed, if_neg H5.out]; simp⟩, ⟨by have := HL.out; simp; omega⟩, HI4, HOp4, Ho4, Hb4⟩
    · obtain ⟨At, ct, hct, hlt2, hrt⟩ := TailLaid.below HT.out HB.out
      have HRT := Aside0.mk hrt
      have hx : x = p.length := by omega
      have HE2 : Aside0 (stuffed p 0 0 = xs) := ⟨by rw [← HE.out, hx]; simp [stuffed]⟩
      clear hrt hx
      go_wp2_with ((with_reducible refine gate_builtin (b := .append) (xs := #[.tmp 30, .tmp 31]) rfl ?_); at_builtin; refine Kd.R_append_rows (Kd.int .i64) (w0 := w) w.heap.size rfl (.tmp 30) (.tmp 31) 22 3 (.int .i64 0) 8 rfl Tryd.underlying22 info3 rfl (by decide) (by omega) u3 xs tailD _ _ _ (fun k_ => True) (fun _ => False) rfl rfl ?aO ?aR (fun _ _ h => h) (fun _ h => h.elim) ?aF ?aB ?aS ?aL ?_; (case aR => exact HRT.out); (case aB => exact HB.out); (case aF => exact fun _ _ => trivial); (case aO => exact Kd.R_mono HOo.out (fun _ _ => trivial)); (case aS => exact HB.out.size); (case aL => have := HL.out; have := HPL.out; omega); intro v1 w2 ho1 hb1 hg1 hat1; have Ho2 := Aside0.mk ho1; have Hb2 := Aside0.mk hb1; clear ho1 hb1 hg1 hat1)
      go_ret
      exact ⟨_, rfl, by rw [HE2.out]; exact Ho2.out, Hb2.out⟩

end Go.Proofs.YtbanemecfobonaaDoor.B
