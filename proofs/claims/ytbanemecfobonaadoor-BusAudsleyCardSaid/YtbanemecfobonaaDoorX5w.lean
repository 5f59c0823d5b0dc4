/- Written by a program (lite.py) from my texts. -/
import Derived.Test.YtbanemecfobonaaDoorXM1w
namespace Go.Proofs.YtbanemecfobonaaDoor.B
open Go.RowKit Go.Proofs.YtbanemecfobonaaDoorW.PrintWords Go.Proofs.YtbanemecfobonaaDoorW.PrintLast Go.Proofs.YtbanemecfobonaaDoorW.PrintMore
set_option linter.unusedVariables false
set_option linter.unusedSimpArgs false
def okM (x : S55) : Bool := decide (0 ≤ x.f0) && decide (x.f0 ≤ 2047) && decide (0 ≤ x.f1) && decide (x.f1 ≤ 8) && decide (1 ≤ x.f2) && decide (x.f2 ≤ 100000) && decide (0 ≤ x.f3) && decide (x.f3 ≤ 100000)
def nosM (l : List S55) : Nat → List Int
  | 0 => []
  | k + 1 => (l.getD k z55).f0 :: nosM l k
def sentTo (l : List S55) : Nat → Bool
  | 0 => true
  | k + 1 => sentTo l k && (okM (l.getD k z55) && !(nosM l k).contains (l.getD k z55).f0)
def sentB (l : List S55) : Bool := sentTo l l.length && decide (l.length ≤ 8)
theorem sentTo_mono (l : List S55) (k : Nat) (h : sentTo l k = false) : ∀ n, k ≤ n → sentTo l n = false := by
  intro n hn
  induction n with
  | zero => obtain rfl : k = 0 := by omega
            exact h
  | succ n ih =>
    rcases Nat.lt_or_ge k (n + 1) with h1 | h1
    · unfold sentTo
      rw [ih z3]; rfl
    · obtain rfl : k = n + 1 := by omega
      exact h
theorem sentB_bad (l : List S55) (k : Int) (h0 : 0 ≤ k) (h : k < l.length) (hb : okM (rd_T55 l k) = false ∨ (nosM l k.toNat).contains (rd_T55 l k).f0 = true) : sentB l = false := by
  have e : sentTo l (k.toNat + 1) = false := by
    unfold sentTo
    have er : l.getD k.toNat z55 = rd_T55 l k := rfl
    rw [er]
    rcases hb with hb | hb
    · rw [hb]; simp
    · rw [hb]; simp
  unfold sentB
  rw [sentTo_mono l _ e l.length z3]; rfl
set_option maxHeartbeats 1000000 in
set_option maxRecDepth 100000 in
theorem bus_sent.calls0 (A0 : Option Addr) (c0 : Nat) (l0 : List S55) (w : World) (hr0 : Kd.C k55 w A0 l0.length l0) (hc0 : l0.length ≤ c0) :
    Calls Tryd.prog 64 #[.slice A0 l0.length c0] w fun e w' => e = .returned (.bool (sentB l0)) ∧ Below w.heap.size w w' := by
  have HR0 := aM hr0; (have HS0 : Aside0 (Seen (w.alloc (.map #[] 0)) w.heap.size 0 []) := ⟨Seen.made w⟩); (have HB : Aside0 (Below w.heap.size w (w.alloc (.map #[] 0))) := ⟨below_alloc (Below.refl _ _) _⟩); (have hlen : (l0.length : Int) ≤ 9223372036854775807 := by have := HR0.out.2.1; omega); (have HLM : Aside0 (l0.length ≤ maxLen) := ⟨by have := HR0.out.2.1; unfold maxLen; omega⟩); clear hr0 hc0; have hu55 := Tryd.underlying55; (have hmk : ∀ w : World, (Instr.makeMap 87 none).run Tryd.prog w = .ok (.map (some w.heap.size)) (w.alloc (.map #[] 0)) := fun w => by kernel_rfl); (go_enter Tryd.func64, Tryd.ntmps64); go_wp2; (go_loopg [9] l0.length (fun g v9 w' => ∃ k : Int, v9 = .int .i64 k ∧ 0 ≤ k ∧ k ≤ l0.length ∧ Aside0 (g = l0.length - k.toNat) ∧ Aside0 (Seen w' w.heap.size k.toNat (nosM l0 k.toNat)) ∧ Aside0 (sentTo l0 k.toNat = true) ∧ Aside0 (Below w.heap.size w w'))); (case atStart => exact ⟨0, rfl, by omega, by omega, ⟨by simp⟩, ⟨HS0.out⟩, ⟨rfl⟩, ⟨HB.out⟩⟩)
  case round =>
   clear HB HS0; obtain ⟨k, rfl, hk0, hk, HG, HS, HD, HB⟩ := hrel; by_cases hlt : k < l0.length; rotate_left
   · (obtain rfl : k = l0.length := by omega); (have hkk : ((l0.length : Int)).toNat = l0.length := by omega)
     have hdf : sentB l0 = decide (l0.length ≤ 8) := by
       have := HD.out
       rw [hkk] at this
       unfold sentB; rw [this]; rfl
     have HDF := aM hdf; clear hdf; go_wp2; go_ret; (exact ⟨by rw [HDF.out]; first | rfl | (simp <;> omega), HB.out⟩)
   (obtain ⟨ad, e0, hx0, hx1, hx2, hx3⟩ := at_T55 HR0.out k hk0 hlt); cases e0; (replace hx0 := kpc HB.out hx0); (replace hx1 := kpc HB.out hx1); (replace hx2 := kpc HB.out hx2); (replace hx3 := kpc HB.out hx3); (have HBAD := aM (sentB_bad l0 k hk0 hlt)); (have HGO : Aside0 (sentTo l0 (k.toNat + 1) = (sentTo l0 k.toNat && (okM (rd_T55 l0 k) && !(nosM l0 k.toNat).contains (rd_T55 l0 k).f0)) ∧ nosM l0 (k.toNat + 1) = (rd_T55 l0 k).f0 :: nosM l0 k.toNat) := ⟨⟨rfl, rfl⟩⟩); (generalize rd_T55 l0 k = x at HBAD HGO hx0 hx1 hx2 hx3); (have HS1 : Aside0 (Seen (wr.alloc (.cells #[.int .i64 x.f0, .int .i64 x.f1, .int .i64 x.f2, .int .i64 x.f3] 55)) w.heap.size k.toNat (nosM l0 k.toNat)) := ⟨HS.out.alloc _⟩); (have HB1 : Aside0 (Below w.heap.size w (wr.alloc (.cells #[.int .i64 x.f0, .int .i64 x.f1, .int .i64 x.f2, .int .i64 x.f3] 55))) := ⟨below_alloc HB.out _⟩); by_cases hc : x.f0 < 0
   · (have t0 : decide (x.f0 < 0) = true := dT hc); (have hko : okM x = false := Bool.eq_false_iff.mpr (fun ho => by simp only [okM, Bool.and_eq_true, decide_eq_true_eq] at ho; omega)); (have HRS := aM (HBAD.out (Or.inl hko))); clear hko; clear hc; go_wp2; go_ret; (exact ⟨by rw [HRS.out]; first | rfl | simp, HB1.out⟩)
   (have t0 : decide (x.f0 < 0) = false := dF hc); have HN0 := aM hc; clear hc; by_cases hc : 2047 < x.f0
   · (have t1 : decide (2047 < x.f0) = true := dT hc); (have hko : okM x = false := Bool.eq_false_iff.mpr (fun ho => by simp only [okM, Bool.and_eq_true, decide_eq_true_eq] at ho; omega)); (have HRS := aM (HBAD.out (Or.inl hko))); clear hko; clear hc; go_wp2; go_ret; (exact ⟨by rw [HRS.out]; first | rfl | simp, HB1.out⟩)
   (have t1 : decide (2047 < x.f0) = false := dF hc); have HN1 := aM hc; clear hc; (have HWF : Aside0 ((Lit.int .i64 x.f0).wf = true) := ⟨by have h1 := HN0.out; have h2 := HN1.out; simp only [Lit.wf, Bool.and_eq_true, decide_eq_true_eq]; exact ⟨by show (-9223372036854775808 : Int) ≤ _; omega, by show _ ≤ (9223372036854775807 : Int); omega⟩⟩); (have hlk := Seen.lookup_run HWF.out HS1.out); by_cases hc : (nosM l0 k.toNat).contains x.f0 = true
   · rw [hc] at hlk; (have hr := HBAD.out (Or.inr hc)); clear hc; have HRS := aM hr; clear hr; go_wp2; go_ret; (exact ⟨by rw [HRS.out]; first | rfl | simp, HB1.out⟩)
   (replace hc : (nosM l0 k.toNat).contains x.f0 = false := by simpa using hc); rw [hc] at hlk; have HN2 := aM hc; clear hc; by_cases hc : x.f1 < 0
   · (have t3 : decide (x.f1 < 0) = true := dT hc); (have hko : okM x = false := Bool.eq_false_iff.mpr (fun ho => by simp only [okM, Bool.and_eq_true, decide_eq_true_eq] at ho; omega)); (have HRS := aM (HBAD.out (Or.inl hko))); clear hko; clear hc; go_wp2; go_ret; (exact ⟨by rw [HRS.out]; first | rfl | simp, HB1.out⟩)
   (have t3 : decide (x.f1 < 0) = false := dF hc); have HN3 := aM hc; clear hc; by_cases hc : 8 < x.f1
   · (have t4 : decide (8 < x.f1) = true := dT hc); (have hko : okM x = false := Bool.eq_false_iff.mpr (fun ho => by simp only [okM, Bool.and_eq_true, decide_eq_true_eq] at ho; omega)); (have HRS := aM (HBAD.out (Or.inl hko))); clear hko; clear hc; go_wp2; go_ret; (exact ⟨by rw [HRS.out]; first | rfl | simp, HB1.out⟩)
   (have t4 : decide (8 < x.f1) = false := dF hc); have HN4 := aM hc; clear hc; by_cases hc : x.f2 < 1
   · (have t5 : decide (x.f2 < 1) = true := dT hc); (have hko : okM x = false := Bool.eq_false_iff.mpr (fun ho => by simp only [okM, Bool.and_eq_true, decide_eq_true_eq] at ho; omega)); (have HRS := aM (HBAD.out (Or.inl hko))); clear hko; clear hc; go_wp2; go_ret; (exact ⟨by rw [HRS.out]; first | rfl | simp, HB1.out⟩)
   (have t5 : decide (x.f2 < 1) = false := dF hc); have HN5 := aM hc; clear hc; by_cases hc : 100000 < x.f2
   · (have t6 : decide (100000 < x.f2) = true := dT hc); (have hko : okM x = false := Bool.eq_false_iff.mpr (fun ho => by simp only [okM, Bool.and_eq_true, decide_eq_true_eq] at ho; omega)); (have HRS := aM (HBAD.out (Or.inl hko))); clear hko; clear hc; go_wp2; go_ret; (exact ⟨by rw [HRS.out]; first | rfl | simp, HB1.out⟩)
   (have t6 : decide (100000 < x.f2) = false := dF hc); have HN6 := aM hc; clear hc; by_cases hc : x.f3 < 0
   · (have t7 : decide (x.f3 < 0) = true := dT hc); (have hko : okM x = false := Bool.eq_false_iff.mpr (fun ho => by simp only [okM, Bool.and_eq_true, decide_eq_true_eq] at ho; omega)); (have HRS := aM (HBAD.out (Or.inl hko))); clear hko; clear hc; go_wp2; go_ret; (exact ⟨by rw [HRS.out]; first | rfl | simp, HB1.out⟩)
   (have t7 : decide (x.f3 < 0) = false := dF hc); have HN7 := aM hc; clear hc; by_cases hc : 100000 < x.f3
   · (have t8 : decide (100000 < x.f3) = true := dT hc); (have hko : okM x = false := Bool.eq_false_iff.mpr (fun ho => by simp only [okM, Bool.and_eq_true, decide_eq_true_eq] at ho; omega)); (have HRS := aM (HBAD.out (Or.inl hko))); clear hko; clear hc; go_wp2; go_ret; (exact ⟨by rw [HRS.out]; first | rfl | simp, HB1.out⟩)
   (have t8 : decide (100000 < x.f3) = false := dF hc); have HN8 := aM hc; clear hc
   have HOK : Aside0 (okM x = true) := ⟨by
     have h0 := HN0.out; have h1 := HN1.out; have h3 := HN3.out; have h4 := HN4.out; have h5 := HN5.out; have h6 := HN6.out; have h7 := HN7.out; have h8 := HN8.out
     simp only [okM, Bool.and_eq_true, decide_eq_true_eq]; omega⟩
   (have HKM : Aside0 (k.toNat < maxLen) := ⟨by have := HLM.out; omega⟩); (go_wp2_with (first | (at_mapUpdate; refine wpList_put_seen _ rfl _ _ _ rfl w.heap.size k.toNat (nosM l0 k.toNat) x.f0 HWF.out rfl HS1.out HKM.out rfl rfl ?_))); (intro w2 hs2 hg2); (have HB2 : Aside0 (Below w.heap.size w w2) := ⟨HB1.out.grown hg2 HB1.out.size (fun k hk => by have e2 := sI hk; omega)⟩); have HS2 := aM hs2; clear hs2 hg2 hlk hx0 hx1 hx2 hx3; go_wp2; (go_roundg (gk - 1)); (case measure => have := HG.out; omega)
   case rel => exact ⟨k + 1, rfl, by omega, by omega, ⟨by have := HG.out; omega⟩, ⟨by
       have e : (k + 1).toNat = k.toNat + 1 := by omega
       rw [e, HGO.out.2]; exact HS2.out.below (by repeat (first | exact Below.refl _ _ | apply pw_below_drewN | apply below_drew1))⟩, ⟨by
       have e : (k + 1).toNat = k.toNat + 1 := by omega
       rw [e, HGO.out.1, HD.out, HOK.out, HN2.out]; rfl⟩, ⟨by repeat (first | exact HB2.out | apply pw_below_drewN | apply below_drew1)⟩⟩
end Go.Proofs.YtbanemecfobonaaDoor.B
