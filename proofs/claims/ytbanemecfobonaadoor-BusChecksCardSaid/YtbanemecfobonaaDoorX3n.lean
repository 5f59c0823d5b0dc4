/- The reader's next bit. -/
import Derived.Test.YtbanemecfobonaaDoorX3
namespace Go.Proofs.YtbanemecfobonaaDoor.B
open Go.RowKit Go.Proofs.YtbanemecfobonaaDoorW.PrintWords Go.Proofs.YtbanemecfobonaaDoorW.PrintLast Go.Proofs.YtbanemecfobonaaDoorW.PrintMore
set_option linter.unusedVariables false
set_option linter.unusedSimpArgs false

/-- May the reader go on? -/
def nextOk (l : List Int) (at_ want : Int) : Bool := !(at_ == l.length || (decide (want ≥ 0) && rd l at_ != want))

set_option maxHeartbeats 8000000 in
set_option maxRecDepth 100000 in
theorem reader_next_no.calls (g : Nat) (A : Option Addr) (c : Nat) (l : List Int) (at_ bit many want : Int) (w0 w : World) (hI : IsRd w0 w g A l.length c at_ bit many) (hB : Below w0.heap.size w0 w) (hr : Kd.C (Kd.int .i64) w A l.length l) (h0 : 0 ≤ at_) (h1 : at_ ≤ l.length) (h : nextOk l at_ want = false) :
    Calls Tryd.prog 47 #[.pointer (some ⟨g, 0, none⟩), .int .i64 want] w fun e w' => e = .returned (.tuple #[.int .i64 0, .bool false]) ∧ Drawn0 w w' := by
  have HI0 := Aside0.mk hI
  have HB := Aside0.mk hB
  have HR := Aside0.mk hr
  clear hI hB hr
  by_cases he : at_ = l.length
  · have e1 : (at_ == (l.length : Int)) = true := beq_iff_eq.2 he
    clear h0 h1 h he
    obtain ⟨HGz, hgz⟩ := HI0.out
    have hcz_0 : w.cell? ⟨g, 0, none⟩ = some (.slice A l.length c) := (blk_cell HGz 0).trans rfl
    have hcz_1 : w.cell? ⟨g, 1, none⟩ = some (.int .i64 at_) := (blk_cell HGz 1).trans rfl
    have hfz_1 := blk_frozen HGz 1
    clear HGz hgz
    go_enter Tryd.func47, Tryd.ntmps47
    go_wp2
    repeat (go_quiet (fail); go_wp2)
    go_ret2
    exact ⟨by first | rfl | simp, by repeat (first | exact Drawn0.refl _ | apply Drawn0.step)⟩
  · have hlt : at_ < l.length := by omega
    have e1 : (at_ == (l.length : Int)) = false := beq_eq_false_iff_ne.2 he
    have hw : (decide (want ≥ 0) && rd l at_ != want) = true := by
      unfold nextOk at h
      rw [e1] at h
      simpa using h
    rw [Bool.and_eq_true] at hw
    obtain ⟨hw1, hw2⟩ := hw
    have hw3 : decide (0 ≤ want) = true := hw1
    have hw4 := of_decide_eq_true hw3
    clear h hw1 he
    obtain ⟨ad, e0, hx⟩ := Kd.at_int HR.out at_ h0 hlt
    cases e0
    obtain ⟨HGz, hgz⟩ := HI0.out
    have hcz_0 : w.cell? ⟨g, 0, none⟩ = some (.slice (some ad) l.length c) := (blk_cell HGz 0).trans rfl
    have hcz_1 : w.cell? ⟨g, 1, none⟩ = some (.int .i64 at_) := (blk_cell HGz 1).trans rfl
    have hfz_1 := blk_frozen HGz 1
    clear HGz hgz
    go_enter Tryd.func47, Tryd.ntmps47
    go_wp2
    repeat (go_quiet (fail); go_wp2)
    go_ret2
    exact ⟨by first | rfl | simp, by repeat (first | exact Drawn0.refl _ | apply Drawn0.step)⟩

set_option maxHeartbeats 8000000 in
set_option maxRecDepth 100000 in
theorem reader_next_yes.calls (g : Nat) (A : Option Addr) (c : Nat) (l : List Int) (at_ bit many want : Int) (w0 w : World) (hI : IsRd w0 w g A l.length c at_ bit many) (hB : Below w0.heap.size w0 w) (hr : Kd.C (Kd.int .i64) w A l.length l) (h0 : 0 ≤ at_) (h1 : at_ ≤ l.length) (h : nextOk l at_ want = true) :
    Calls Tryd.prog 47 #[.pointer (some ⟨g, 0, none⟩), .int .i64 want] w fun e w' => e = .returned (.tuple #[.int .i64 (rd l at_), .bool true]) ∧ IsRd w0 w' g A l.length c (at_ + 1) (put1 bit many (rd l at_)).1 (put1 bit many (rd l at_)).2 ∧ Below w0.heap.size w0 w' ∧ KeepBut w w' g none := by
  have HI0 := Aside0.mk hI
  have HB := Aside0.mk hB
  have HR := Aside0.mk hr
  have HK := Aside0.mk (KeepBut.refl w g none)
  clear hI hB hr
  have e1 : (at_ == (l.length : Int)) = false := by
    unfold nextOk at h
    cases e : (at_ == (l.length : Int))
    · rfl
    · rw [e] at h; simp at h
  have hlt : at_ < l.length := by have := beq_eq_false_iff_ne.1 e1; omega
  have hll : (l.length : Int) ≤ 9223372036854775807 := by have := HR.out.2.1; omega
  obtain ⟨ad, e0, hx⟩ := Kd.at_int HR.out at_ h0 hlt
  cases e0
  by_cases hw0 : 0 ≤ want
  · have hw2 : (rd l at_ != want) = false := by
      unfold nextOk at h
      rw [e1] at h
      simpa [hw0] using h
    clear h
    obtain ⟨HGz, hgz⟩ := HI0.out
    have hcz_0 : w.cell? ⟨g, 0, none⟩ = some (.slice (some ad) l.length c) := (blk_cell HGz 0).trans rfl
    have hcz_1 : w.cell? ⟨g, 1, none⟩ = some (.int .i64 at_) := (blk_cell HGz 1).trans rfl
    have hfz_1 := blk_frozen HGz 1
    clear HGz hgz
    go_enter Tryd.func47, Tryd.ntmps47
    go_wp2_with fail
    repeat (go_quiet (fail); go_wp2_with fail)
    refine (row80_put.calls g (some ad) l.length c (at_ + 1) bit many (rd l at_) w0 _ ?s1 ?s2).mono ?_
    case s1 => repeat (first | exact HI0.out | apply IsRd.drewN | apply IsRd.drew | apply IsRd.set_1)
    case s2 => repeat (first | exact HB.out | apply below_alloc | apply pw_below_drewN | apply below_drew1 | refine below_set ?_ HI0.out.2)
    rintro e w2 ⟨rfl, hi, hb, hk⟩
    have HI2 := Aside0.mk hi
    have HB2 := Aside0.mk hb
    have HK2 := Aside0.mk hk
    clear hi hb hk
    go_wp2_with fail
    go_ret2
    exact ⟨by first | rfl | simp, HI2.out, HB2.out, KeepBut.trans (by repeat (first | exact HK.out | apply KeepBut.set_ | apply keep_drewN | apply keep_drew | apply keep_alloc)) HK2.out (.inl rfl)⟩
  · have hw3 : decide (0 ≤ want) = false := by simpa using hw0
    clear h
    obtain ⟨HGz, hgz⟩ := HI0.out
    have hcz_0 : w.cell? ⟨g, 0, none⟩ = some (.slice (some ad) l.length c) := (blk_cell HGz 0).trans rfl
    have hcz_1 : w.cell? ⟨g, 1, none⟩ = some (.int .i64 at_) := (blk_cell HGz 1).trans rfl
    have hfz_1 := blk_frozen HGz 1
    clear HGz hgz
    go_enter Tryd.func47, Tryd.ntmps47
    go_wp2_with fail
    repeat (go_quiet (fail); go_wp2_with fail)
    refine (row80_put.calls g (some ad) l.length c (at_ + 1) bit many (rd l at_) w0 _ ?s1 ?s2).mono ?_
    case s1 => repeat (first | exact HI0.out | apply IsRd.drewN | apply IsRd.drew | apply IsRd.set_1)
    case s2 => repeat (first | exact HB.out | apply below_alloc | apply pw_below_drewN | apply below_drew1 | refine below_set ?_ HI0.out.2)
    rintro e w2 ⟨rfl, hi, hb, hk⟩
    have HI2 := Aside0.mk hi
    have HB2 := Aside0.mk hb
    have HK2 := Aside0.mk hk
    clear hi hb hk
    go_wp2_with fail
    go_ret2
    exact ⟨by first | rfl | simp, HI2.out, HB2.out, KeepBut.trans (by repeat (first | exact HK.out | apply KeepBut.set_ | apply keep_drewN | apply keep_drew | apply keep_alloc)) HK2.out (.inl rfl)⟩

end Go.Proofs.YtbanemecfobonaaDoor.B
