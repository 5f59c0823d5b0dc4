/- Hidden's closure: does a set hide a tube? -/
import Derived.Test.YtfbibheeogcacaaDoorXC1
import Derived.Deep.RegionHeld3
namespace Go.Proofs.YtfbibheeogcacaaDoor.B
open Go.RowKit Go.Proofs.YtfbibheeogcacaaDoorW.PrintWords Go.Proofs.YtfbibheeogcacaaDoorW.PrintLast Go.Proofs.YtfbibheeogcacaaDoorW.PrintMore
set_option linter.unusedVariables false
set_option linter.unusedSimpArgs false

/-- What the closure answers: cb: is the tube one of the set; q: the tests of the tube that the set leaves. -/
def hidA (cb : Bool) (q : Int) : Bool := !cb && (q == 0)
set_option maxHeartbeats 1000000 in
set_option maxRecDepth 100000 in
theorem f13_no (l : List Int) (A : Option Addr) (c : Nat) (t : Int) (cols : List Int) (Ac : Option Addr) (cc gt gc gf : Nat) (w : World) (k1 k2 : Nat) (cb : Bool) (dk : Int)
    (hgt : w.cell? ⟨gt, 0, none⟩ = some (.int .i64 t)) (hgc : w.cell? ⟨gc, 0, none⟩ = some (.slice Ac cols.length cc)) (hcol : Kd.C (Kd.int .u64) w Ac cols.length cols) (hcc : cols.length ≤ cc)
    (hl : Kd.C (Kd.int .i64) w A l.length l) (hlc : l.length ≤ c) (ht0 : 0 ≤ t) (ht1 : t < (cols.length : Int))
    (h1 : slices_Contains_int_int.f k1 l t = some cb) (h2 : find_dark.f k2 cols l = some dk) (hno : hidA cb (Go.bits .andNot .u64 (rd cols t) dk) = false) :
    Calls Tryd.prog 13 #[.slice A l.length c, .pointer (some ⟨gt, 0, none⟩), .pointer (some ⟨gc, 0, none⟩), .pointer (some ⟨gf, 0, none⟩)] w fun e w' => e = .returned (.bool false) ∧ Drawn0 w w' := by
  have HC : Aside0 (∀ W, Drawn0 w W → Calls Tryd.prog 14 #[.slice A l.length c, .int .i64 t] W fun e w' => e = .returned (.bool cb) ∧ Drawn0 W w') := ⟨fun W hb => slices_Contains_int_int.calls k1 A c l t cb W (Kd.C_below hl (below_drawn0 hb)) hlc h1⟩
  have HD : Aside0 (∀ W, Drawn0 w W → Calls Tryd.prog 15 #[.slice Ac cols.length cc, .slice A l.length c] W fun e w' => e = .returned (.int .u64 dk) ∧ Drawn0 W w') := ⟨fun W hb => find_dark.calls k2 Ac cc cols A c l dk W (Kd.C_below hcol (below_drawn0 hb)) hcc (Kd.C_below hl (below_drawn0 hb)) hlc h2⟩
  obtain ⟨ad, e0, hx⟩ := Kd.at_int hcol t ht0 ht1
  cases e0
  obtain ⟨p, rfl⟩ : ∃ p : Nat, t = (p : Int) := Int.eq_ofNat_of_zero_le ht0
  rw [Int.toNat_natCast] at hx
  generalize rd cols (p : Int) = x at hx hno
  have HNO := Aside0.mk hno
  clear hcol hl h1 h2 hno
  cases cb
  · have hq : (Go.bits .andNot .u64 x dk != 0) = true := by
      have := HNO.out
      unfold hidA at this
      simpa using this
    clear HNO
    go_enter Tryd.func13, Tryd.ntmps13
    go_upto_region 1 with (fail)
    go_quiet (first | (go_at_call 14; (refine (HC.out _ ⟨_, rfl⟩).mono ?_); rintro e w' ⟨rfl, ⟨nd, rfl⟩⟩; (try first | exact ⟨rfl, _, World.drewN_drewN _ _ _⟩ | exact ⟨rfl, _, Eq.trans (World.drewN_drewN _ _ _) (congrArg (World.drewN _) (Nat.add_assoc _ _ _))⟩)) | (go_at_call 15; (refine (HD.out _ ⟨_, rfl⟩).mono ?_); rintro e w' ⟨rfl, ⟨nd, rfl⟩⟩; (try first | exact ⟨rfl, _, World.drewN_drewN _ _ _⟩ | exact ⟨rfl, _, Eq.trans (World.drewN_drewN _ _ _) (congrArg (World.drewN _) (Nat.add_assoc _ _ _))⟩)))
    try go_wp2
    go_ret
    exact ⟨rfl, by repeat (first | exact Drawn0.refl _ | apply Drawn0.step)⟩
  · clear HNO
    go_enter Tryd.func13, Tryd.ntmps13
    go_upto_region 1 with (fail)
    go_quiet (first | (go_at_call 14; (refine (HC.out _ ⟨_, rfl⟩).mono ?_); rintro e w' ⟨rfl, ⟨nd, rfl⟩⟩; (try first | exact ⟨rfl, _, World.drewN_drewN _ _ _⟩ | exact ⟨rfl, _, Eq.trans (World.drewN_drewN _ _ _) (congrArg (World.drewN _) (Nat.add_assoc _ _ _))⟩)) | (go_at_call 15; (refine (HD.out _ ⟨_, rfl⟩).mono ?_); rintro e w' ⟨rfl, ⟨nd, rfl⟩⟩; (try first | exact ⟨rfl, _, World.drewN_drewN _ _ _⟩ | exact ⟨rfl, _, Eq.trans (World.drewN_drewN _ _ _) (congrArg (World.drewN _) (Nat.add_assoc _ _ _))⟩)))
    try go_wp2
    go_ret
    exact ⟨rfl, by repeat (first | exact Drawn0.refl _ | apply Drawn0.step)⟩
set_option maxHeartbeats 1000000 in
set_option maxRecDepth 100000 in
theorem f13_yes (l : List Int) (A : Option Addr) (c : Nat) (t : Int) (cols : List Int) (Ac : Option Addr) (cc gt gc gf : Nat) (v0 : Value) (w : World) (k1 k2 : Nat) (dk : Int)
    (hgt : w.cell? ⟨gt, 0, none⟩ = some (.int .i64 t)) (hgc : w.cell? ⟨gc, 0, none⟩ = some (.slice Ac cols.length cc)) (hcol : Kd.C (Kd.int .u64) w Ac cols.length cols) (hcc : cols.length ≤ cc)
    (hgf : w.heap[gf]? = some (.cells #[v0] 24 (0, 0))) (hl8 : l.length ≤ 100)
    (hl : Kd.C (Kd.int .i64) w A l.length l) (hlc : l.length ≤ c) (ht0 : 0 ≤ t) (ht1 : t < (cols.length : Int))
    (h1 : slices_Contains_int_int.f k1 l t = some false) (h2 : find_dark.f k2 cols l = some dk) (hyes : hidA false (Go.bits .andNot .u64 (rd cols t) dk) = true) :
    Calls Tryd.prog 13 #[.slice A l.length c, .pointer (some ⟨gt, 0, none⟩), .pointer (some ⟨gc, 0, none⟩), .pointer (some ⟨gf, 0, none⟩)] w fun e w' => e = .returned (.bool true) ∧ ∃ v' : Value, w'.heap[gf]? = some (.cells #[v'] 24 (0, 0)) ∧ Kd.R (Kd.int .i64) 3 w' w.heap.size (fun _ => True) v' ([t] ++ l) ∧ ∀ B, B ≤ gf → B ≤ w.heap.size → Below B w w' := by
  have HC : Aside0 (∀ W, Drawn0 w W → Calls Tryd.prog 14 #[.slice A l.length c, .int .i64 t] W fun e w' => e = .returned (.bool false) ∧ Drawn0 W w') := ⟨fun W hb => slices_Contains_int_int.calls k1 A c l t false W (Kd.C_below hl (below_drawn0 hb)) hlc h1⟩
  have HD : Aside0 (∀ W, Drawn0 w W → Calls Tryd.prog 15 #[.slice Ac cols.length cc, .slice A l.length c] W fun e w' => e = .returned (.int .u64 dk) ∧ Drawn0 W w') := ⟨fun W hb => find_dark.calls k2 Ac cc cols A c l dk W (Kd.C_below hcol (below_drawn0 hb)) hcc (Kd.C_below hl (below_drawn0 hb)) hlc h2⟩
  obtain ⟨ad, e0, hx⟩ := Kd.at_int hcol t ht0 ht1
  cases e0
  obtain ⟨p, rfl⟩ : ∃ p : Nat, t = (p : Int) := Int.eq_ofNat_of_zero_le ht0
  rw [Int.toNat_natCast] at hx
  have HL := Aside0.mk hl
  have HF := Aside0.mk hgf
  generalize rd cols (p : Int) = x at hx hyes
  have hq : (Go.bits .andNot .u64 x dk != 0) = false := by
    unfold hidA at hyes
    simpa using hyes
  have HGT := Aside0.mk hgt
  have hgf0 : w.cell? ⟨gf, 0, none⟩ = some v0 := (blk_cell hgf 0).trans rfl
  clear hcol hl h1 h2 hyes hgf
  go_enter Tryd.func13, Tryd.ntmps13
  go_upto_region 1 with (fail)
  go_quiet (first | (go_at_call 14; (refine (HC.out _ ⟨_, rfl⟩).mono ?_); rintro e w' ⟨rfl, ⟨nd, rfl⟩⟩; (try first | exact ⟨rfl, _, World.drewN_drewN _ _ _⟩ | exact ⟨rfl, _, Eq.trans (World.drewN_drewN _ _ _) (congrArg (World.drewN _) (Nat.add_assoc _ _ _))⟩)) | (go_at_call 15; (refine (HD.out _ ⟨_, rfl⟩).mono ?_); rintro e w' ⟨rfl, ⟨nd, rfl⟩⟩; (try first | exact ⟨rfl, _, World.drewN_drewN _ _ _⟩ | exact ⟨rfl, _, Eq.trans (World.drewN_drewN _ _ _) (congrArg (World.drewN _) (Nat.add_assoc _ _ _))⟩)))
  go_upto_region 3 with (fail)
  have hgt : (w.drewN nq).cell? ⟨gt, 0, none⟩ = some (.int .i64 (p : Int)) := keepc (pw_below_drewN (Below.refl _ _) nq) HGT.out
  have HL2 : Aside0 (Kd.C (Kd.int .i64) (w.drewN nq) A l.length l) := ⟨Kd.C_below HL.out (pw_below_drewN (Below.refl _ _) nq)⟩
  have HB : Aside0 (Below w.heap.size w (w.drewN nq)) := ⟨pw_below_drewN (Below.refl _ _) nq⟩
  have HF2 : Aside0 ((w.drewN nq).heap[gf]? = some (.cells #[v0] 24 (0, 0))) := ⟨blk_below HF.out HB.out⟩
  have hfl := blk_lt HF2.out
  clear HL HF HC HD hgf0 hgc hx hq HGT
  generalize hW : w.drewN nq = W at *
  clear hW
  go_wp2_with (first
    | ((with_reducible refine gate_dst (N := 21) rfl ?_); refine Kd.R_lit (Kd.int .i64) _ 3 ?hg (N := 21) ?hd (xs := ([(p : Int)] : List Int)) (inner := [.int .i64 (p : Int)]) (ok := fun _ => True) (okp := fun _ => True) ?hr ?hp (fun _ hk => hk) trivial (Below.refl _ _) (Nat.le_refl _) (by simp) ?_; (case hd => rfl); (case hg => rfl); (case hr => first | (go_simp; done) | (go_simp; rfl)); (case hp => exact (Reps.one (show Kd.M (Kd.int .i64) _ _ _ (p : Int) [.int .i64 (p : Int)] from rfl) (Reps.none _ _))); intro v47 w2 ho2 hb2 hg2 hn2; clear hg2 hn2; have R2 := Aside0.mk ho2; have B2 := Aside0.mk hb2; clear ho2 hb2)
    | ((with_reducible refine gate_builtin (b := .append) (xs := #[.tmp 21, .tmp 22]) rfl ?_); at_builtin; refine Kd.R_append_row (Value.int .i64) (0 : Int) (w0 := W) W.heap.size rfl (.tmp 21) (.tmp 22) 24 3 (.int .i64 0) 8 rfl Tryd.underlying24 info3 rfl (by omega) v47 [(p : Int)] l A l.length c (fun _ => True) rfl rfl (fun _ _ => trivial) R2.out (Kd.C_below HL2.out B2.out) B2.out B2.out.size (by simp; omega) ?_; intro v49 w3 ho3 hb3 hg3 hat3; obtain ⟨A49, c49, rfl⟩ := Kd.R_slice ho3; have R3 := Aside0.mk ho3; have B3 := Aside0.mk hb3; have hf3 : w3.cell? ⟨gf, 0, none⟩ = some v0 := (blk_cell (blk_below HF2.out hb3) 0).trans rfl; have hz3 : w3.frozen? ⟨gf, 0, none⟩ = false := blk_frozen (blk_below HF2.out hb3) 0; clear ho3 hb3 hg3 hat3))
  go_ret
  have e3 := blk_below HF2.out B3.out
  have hs : w.heap.size ≤ W.heap.size := HB.out.size
  refine ⟨rfl, .slice A49 ([(p : Int)] ++ l).length c49, ?_, ?_, ?_⟩
  · exact blk_put e3 0 _ rfl
  · exact Kd.R_set (Kd.R_lower R3.out hs) e3 (fun q hq => by
      have : q = 3 := by simpa [Kd.int, Kd.scalar] using hq
      subst this; decide) 0 _
  · intro B h1 h2
    exact (Below.mono (below_step HB.out B3.out) h2).setCell h1 _
end Go.Proofs.YtfbibheeogcacaaDoor.B
