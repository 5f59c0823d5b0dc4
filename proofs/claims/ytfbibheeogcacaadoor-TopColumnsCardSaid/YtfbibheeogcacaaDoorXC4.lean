/- subsets, for sets of no tube and of one tube. -/
import Derived.Test.YtfbibheeogcacaaDoorXC3
import Derived.Deep.DeepCutAuto
import Derived.Deep.RegionLaw
import Derived.Laws.EntriesVeiled
namespace Go.Proofs.YtfbibheeogcacaaDoor.B
open Go.RowKit Go.Proofs.YtfbibheeogcacaaDoorW.PrintWords Go.Proofs.YtfbibheeogcacaaDoorW.PrintLast Go.Proofs.YtfbibheeogcacaaDoorW.PrintMore
set_option linter.unusedVariables false
set_option linter.unusedSimpArgs false

theorem drew_alloc1 (w : World) (o : Obj) : (w.alloc o).drew = w.drew.alloc o := rfl
theorem drewN_alloc1 (w : World) (o : Obj) (n : Nat) : (w.alloc o).drewN n = (w.drewN n).alloc o := rfl
/-- What the closure on of subsets finds in its variables. -/
structure OnEnv (W : World) (gm gv gn go : Nat) (many n : Int) (e1 e2 e3 : Value) : Prop where
  m : W.cell? ⟨gm, 0, none⟩ = some (.int .i64 many)
  v : W.cell? ⟨gv, 0, none⟩ = some (.func (.func 13) #[] #[e1, e2, e3])
  n : W.cell? ⟨gn, 0, none⟩ = some (.int .i64 n)
  o : W.cell? ⟨go, 0, none⟩ = some (.func (.func 27) #[] #[.pointer (some ⟨gm, 0, none⟩), .pointer (some ⟨gv, 0, none⟩), .pointer (some ⟨gn, 0, none⟩), .pointer (some ⟨go, 0, none⟩)])
theorem OnEnv.below {W W' : World} {gm gv gn go : Nat} {many n : Int} {e1 e2 e3 : Value} (h : OnEnv W gm gv gn go many n e1 e2 e3) (hb : Below W.heap.size W W') : OnEnv W' gm gv gn go many n e1 e2 e3 :=
  ⟨keepc hb h.m, keepc hb h.v, keepc hb h.n, keepc hb h.o⟩
set_option maxHeartbeats 400000 in
set_option maxRecDepth 100000 in
theorem on_at (l : List Int) (A : Option Addr) (c : Nat) (fr n : Int) (gm gv gn go : Nat) (e1 e2 e3 : Value) (b : Bool) (R : World → Prop) (w : World)
    (hE : OnEnv w gm gv gn go (l.length : Int) n e1 e2 e3)
    (hV : Calls Tryd.prog 13 #[.slice A l.length c, e1, e2, e3] w fun e w' => e = .returned (.bool b) ∧ R w') :
    Calls Tryd.prog 27 #[.slice A l.length c, .int .i64 fr, .pointer (some ⟨gm, 0, none⟩), .pointer (some ⟨gv, 0, none⟩), .pointer (some ⟨gn, 0, none⟩), .pointer (some ⟨go, 0, none⟩)] w fun e w' => e = .returned (.bool b) ∧ R w' := by
  have hm := hE.m
  have hv := hE.v
  have HV := Aside0.mk hV
  clear hE hV
  generalize l.length = len at *
  go_enter Tryd.func27, Tryd.ntmps27
  go_wp2_with (first | (go_at_call 13; refine HV.out.mono ?_; rintro e w1 ⟨rfl, r1⟩; replace r1 := Aside0.mk r1))
  go_ret
  exact ⟨rfl, r1.out⟩
set_option maxHeartbeats 2000000 in
set_option maxRecDepth 100000 in
theorem on_one (n : Nat) (c0 : Nat) (gm gv gn go : Nat) (e1 e2 e3 : Value) (h : Nat → Bool) (RY : World → Nat → World → Prop) (w : World) (hn : n ≤ 1000)
    (hE : OnEnv w gm gv gn go 1 (n : Int) e1 e2 e3)
    (hV : ∀ (t : Nat) (A : Option Addr) (c : Nat) (W : World), t < n → Below w.heap.size w W → Kd.C (Kd.int .i64) W A 1 [(t : Int)] → 1 ≤ c → Calls Tryd.prog 13 #[.slice A 1 c, e1, e2, e3] W fun e w' => e = .returned (.bool (h t)) ∧ (h t = false → Below W.heap.size W w') ∧ (h t = true → RY W t w')) :
    Calls Tryd.prog 27 #[.slice none 0 0, .int .i64 0, .pointer (some ⟨gm, 0, none⟩), .pointer (some ⟨gv, 0, none⟩), .pointer (some ⟨gn, 0, none⟩), .pointer (some ⟨go, 0, none⟩)] w fun e w' => (idxB h n 0 = -1 ∧ e = .returned (.bool false) ∧ Below w.heap.size w w') ∨ ∃ (t : Nat) (W : World), idxB h n 0 = (t : Int) ∧ t < n ∧ h t = true ∧ e = .returned (.bool true) ∧ Below w.heap.size w W ∧ RY W t w' := by
  have HE := Aside0.mk hE
  have HV := Aside0.mk hV
  have HB0 := Aside0.mk (Below.refl w.heap.size w)
  have hm := hE.m
  clear hE hV
  go_enter Tryd.func27, Tryd.ntmps27
  go_wp2
  clear hm
  go_loopg [9] n (fun gk v9 w' => ∃ i : Nat, v9 = .int .i64 (i : Int) ∧ i ≤ n ∧ Aside0 (gk = n - i) ∧ Aside0 (idxB h n 0 = idxB h (n - i) i) ∧ Aside0 (Below w.heap.size w w'))
  case atStart => exact ⟨0, rfl, by omega, ⟨rfl⟩, ⟨rfl⟩, HB0⟩
  case round =>
    clear HB0
    obtain ⟨i, rfl, hi, HK, HI, HB⟩ := hrel
    have hnr := (HE.out.below HB.out).n
    by_cases hlt : i < n
    · have HN : Aside0 (idxB h (n - i) i = if h i = true then (i : Int) else idxB h (n - (i + 1)) (i + 1)) := ⟨by rw [show n - i = (n - (i + 1)) + 1 by omega]; rfl⟩
      have hor := (HE.out.below HB.out).o
      have hi1 : IntKind.i64.wrap ((i : Int) + 1) = (i : Int) + 1 := IntWalk.i64_in _ (by omega)
      obtain ⟨b, hb⟩ : ∃ b, h i = b := ⟨_, rfl⟩
      have HB1 := Aside0.mk hb
      have HCL : Aside0 (∀ (A : Option Addr) (c : Nat) (W : World), Below w.heap.size w W → Kd.C (Kd.int .i64) W A 1 [(i : Int)] → 1 ≤ c → Calls Tryd.prog 27 #[.slice A 1 c, .int .i64 ((i : Int) + 1), .pointer (some ⟨gm, 0, none⟩), .pointer (some ⟨gv, 0, none⟩), .pointer (some ⟨gn, 0, none⟩), .pointer (some ⟨go, 0, none⟩)] W fun e w' => e = .returned (.bool b) ∧ (b = false → Below W.heap.size W w') ∧ (b = true → RY W i w')) := ⟨fun A c W hbl hc hcc =>
        on_at [(i : Int)] A c ((i : Int) + 1) (n : Int) gm gv gn go e1 e2 e3 b _ W (HE.out.below hbl) (hb ▸ HV.out i A c W hlt hbl hc hcc)⟩
      clear hb
      have hal : ∀ ob, (wr.alloc ob).cell? ⟨go, 0, none⟩ = some (.func (.func 27) #[] #[.pointer (some ⟨gm, 0, none⟩), .pointer (some ⟨gv, 0, none⟩), .pointer (some ⟨gn, 0, none⟩), .pointer (some ⟨go, 0, none⟩)]) := fun ob => (HE.out.below (below_alloc HB.out ob)).o
      go_upto_region 6 with (fail)
      go_cut [35] (fun v35 wc => v35 = .bool b ∧ ∃ W : World, Aside0 (Below w.heap.size w W) ∧ Aside0 (b = false → Below W.heap.size W wc) ∧ Aside0 (b = true → RY W i wc))
      case first =>
        rename_i J0 K0 hJ0 hK0
        go_region_law (first
          | ((try (first | rw [drew_alloc1 wr] | rw [drewN_alloc1 wr])); refine Kd.R_append_step (Kd.int .i64) (w0 := wr) wr.heap.size (by rfl) (.tmp 29) (.tmp 31) 24 3 (.int .i64 0) 8 rfl Tryd.underlying24 info3 rfl (by decide) (by omega) (.slice none 0 0) ([] : List Int) (i : Int) [.int .i64 (i : Int)] (fun _ => True) (fun _ => False) rfl rfl ?aP (fun _ hk => hk.elim) ?aF ?aO ?aB ?aS ?aL ?_; (case aP => exact rfl); (case aF => exact (fun k hk => trivial)); (case aO => exact Kd.R_nil _ _ _ _ _); (case aB => repeat (first | exact Below.refl _ _ | apply below_alloc | apply pw_below_drewN | apply below_drew1)); (case aS => exact Nat.le_refl _); (case aL => decide); intro v1 w4 ho4 hb4 hg4 hat4; obtain ⟨A59, c59, rfl, hc59, hC59⟩ := Kd.R_reads ho4; have R4 := Aside0.mk hC59; have C4 := Aside0.mk hc59; have B4 := Aside0.mk (below_step HB.out hb4); have hor4 := (HE.out.below B4.out).o; clear ho4 hb4 hg4 hat4 hc59 hC59)
          | (go_simp; go_at_call 27; refine (HCL.out A59 c59 w4 B4.out R4.out C4.out).mono ?_; rintro e w5 ⟨rfl, no5, yes5⟩; have N5 := Aside0.mk no5; have Y5 := Aside0.mk yes5; clear no5 yes5))
        all_goals
          clear HCL HE HV HI HN HK
          refine hK0 _ _ (Met.intro (hJ0 _ _ ?_))
          repeat apply Exists.intro
          exact ⟨⟨rfl, _, B4, N5, Y5⟩, rfl⟩
      case rest =>
      obtain ⟨rfl, W, B5, N5, Y5⟩ := hcut
      clear HCL hor hnr hal
      cases b
      · go_wp2
        go_roundg (n - (i + 1))
        case measure => have := HK.out; omega
        case rel => exact ⟨i + 1, by go_num, by omega, ⟨rfl⟩, ⟨by rw [HI.out, HN.out, if_neg (by rw [HB1.out]; simp)]⟩, ⟨below_step B5.out (by first | exact N5.out | exact N5.out rfl | exact N5.out trivial)⟩⟩
      · go_wp2
        go_ret
        exact .inr ⟨i, by rw [HI.out, HN.out, if_pos HB1.out], hlt, HB1.out, rfl, W, B5.out, by first | exact Y5.out | exact Y5.out rfl | exact Y5.out trivial⟩
    · obtain rfl : i = n := by omega
      go_wp2
      go_ret
      exact .inl ⟨by rw [HI.out, Nat.sub_self]; rfl, rfl, HB.out⟩
end Go.Proofs.YtfbibheeogcacaaDoor.B
