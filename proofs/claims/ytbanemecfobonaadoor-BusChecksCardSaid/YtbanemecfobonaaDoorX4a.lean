/- slices.IndexFunc and ContainsFunc at []Frame with the closure of Wins. -/
import Derived.Test.YtbanemecfobonaaDoorX1
namespace Go.Proofs.YtbanemecfobonaaDoor.B
open Go.RowKit Go.Proofs.YtbanemecfobonaaDoorW.PrintWords Go.Proofs.YtbanemecfobonaaDoorW.PrintLast Go.Proofs.YtbanemecfobonaaDoorW.PrintMore
set_option linter.unusedVariables false
set_option linter.unusedSimpArgs false

/-- Is a frame valid? -/
def vB (x : S24) : Bool := decide (0 ≤ x.f0) && decide (x.f0 ≤ 2047) && decide (x.f1.length ≤ 8) && !x.f1.any (fun x => decide (x < 0) || decide (255 < x))
theorem bus_valid_vB (x : S24) : bus_valid.f x.f0 x.f1 = some (vB x) := rfl
/-- Is it not? -/
def nvB (x : S24) : Bool := !vB x

set_option maxHeartbeats 400000 in
set_option maxRecDepth 100000 in
theorem f58.calls (x : S24) (A : Option Addr) (c : Nat) (w : World) (hr : Kd.C (Kd.int .i64) w A x.f1.length x.f1) (hc : x.f1.length ≤ c) :
    Calls Tryd.prog 58 #[.agg #[.int .i64 x.f0, .slice A x.f1.length c]] w fun e w' => e = .returned (.bool (nvB x)) ∧ Below w.heap.size w w' := by
  have HB := Aside0.mk (below_alloc (Below.refl w.heap.size w) (.cells #[.int .i64 x.f0, .slice A x.f1.length c] 24))
  have HV := Aside0.mk (bus_valid.calls x.f0 A c x.f1 (vB x) (w.alloc (.cells #[.int .i64 x.f0, .slice A x.f1.length c] 24)) (Kd.C_below hr (below_alloc (Below.refl _ _) _)) hc rfl)
  have hn : nvB x = !vB x := rfl
  have HN := Aside0.mk hn
  have hu24 := Tryd.underlying24
  clear hr hn
  generalize vB x = b at HV HN
  go_enter Tryd.func58, Tryd.ntmps58
  go_wp2_with (first | (go_at_call 44; refine HV.out.mono ?_; rintro e w1 ⟨rfl, b1⟩; replace b1 := Aside0.mk (below_step HB.out b1)))
  go_ret
  exact ⟨by rw [HN.out]; first | rfl | simp, b1.out⟩

set_option maxHeartbeats 1000000 in
set_option maxRecDepth 100000 in
theorem IndexFunc_frame.calls (A0 : Option Addr) (c0 : Nat) (l0 : List S24) (w : World) (hr0 : Kd.C k24 w A0 l0.length l0) (hc0 : l0.length ≤ c0) :
    Calls Tryd.prog 94 #[.slice A0 l0.length c0, .func (.func 58) #[] #[]] w fun e w' => e = .returned (.int .i64 (idxOf nvB l0)) ∧ Below w.heap.size w w' := by
  have HR0 := Aside0.mk hr0
  have HC0 := Aside0.mk hc0
  clear hr0 hc0
  have hlen : (l0.length : Int) ≤ 9223372036854775807 := by have := HR0.out.2.1; omega
  have hu24 := Tryd.underlying24
  go_enter Tryd.func94, Tryd.ntmps94
  go_wp2
  go_loopg [8] l0.length (fun g v8 w' => ∃ k : Int, v8 = .int .i64 k ∧ 0 ≤ k ∧ k ≤ l0.length ∧ Aside0 (g = l0.length - k.toNat) ∧ Aside0 (∀ j : Nat, j < k.toNat → nvB (l0.getD j z24) = false) ∧ Aside0 (Below w.heap.size w w'))
  case atStart => exact ⟨0, rfl, by omega, by omega, ⟨by simp⟩, ⟨fun j hj => by simp at hj⟩, ⟨Below.refl _ _⟩⟩
  case round =>
    obtain ⟨k, rfl, hk0, hk, HG, HP, HB⟩ := hrel
    by_cases hlt : k < l0.length
    · obtain ⟨ad, A1, c1, e0, hx0, hx1, hc1, hd⟩ := at_T24 HR0.out k hk0 hlt
      cases e0
      replace hx0 := (HB.out.cell (World.block_lt_of_cell? w _ hx0)).trans hx0
      replace hx1 := (HB.out.cell (World.block_lt_of_cell? w _ hx1)).trans hx1
      have HV := Aside0.mk (f58.calls (rd_T24 l0 k) A1 c1 wr (Kd.C_below hd HB.out) hc1)
      clear hd hc1
      have HK : nvB (rd_T24 l0 k) = nvB (l0.getD k.toNat z24) := rfl
      cases hpx : nvB (rd_T24 l0 k)
      · rw [hpx] at HV
        have HX := Aside0.mk (HK.symm.trans hpx)
        clear hpx HK
        go_wp2_with (first | (go_at_call 58; refine HV.out.mono ?_; rintro e w' ⟨rfl, b1⟩; replace HB := Aside0.mk (below_step HB.out b1); clear b1))
        go_roundg (gk - 1)
        case measure => have := HG.out; omega
        case rel => exact ⟨k + 1, rfl, by omega, by omega, ⟨by have := HG.out; omega⟩, ⟨fun j hj => by
          rcases Nat.lt_or_ge j k.toNat with h | h
          · exact HP.out j h
          · have : j = k.toNat := by omega
            subst this
            exact HX.out⟩, ⟨HB.out⟩⟩
      · rw [hpx] at HV
        have HX := Aside0.mk (HK.symm.trans hpx)
        clear hpx HK
        go_wp2_with (first | (go_at_call 58; refine HV.out.mono ?_; rintro e w' ⟨rfl, b1⟩; replace HB := Aside0.mk (below_step HB.out b1); clear b1))
        go_ret
        have hid : idxOf nvB l0 = k := idxOf_some nvB l0 k hk0 hlt HX.out HP.out
        exact ⟨by simp [hid], HB.out⟩
    · have hn : idxOf nvB l0 = -1 := by
        haveI : Inhabited S24 := ⟨z24⟩
        exact idxOf_none nvB l0 (fun j hj => HP.out j (by omega))
      have HN := Aside0.mk hn
      clear hn
      go_wp2_with fail
      go_ret
      exact ⟨by rw [HN.out]; first | rfl | simp, HB.out⟩

set_option maxHeartbeats 1000000 in
theorem ContainsFunc_frame.calls (A0 : Option Addr) (c0 : Nat) (l0 : List S24) (w : World) (hr0 : Kd.C k24 w A0 l0.length l0) (hc0 : l0.length ≤ c0) :
    Calls Tryd.prog 57 #[.slice A0 l0.length c0, .func (.func 58) #[] #[]] w fun e w' => e = .returned (.bool (l0.any nvB)) ∧ Below w.heap.size w w' := by
  have HI := Aside0.mk (IndexFunc_frame.calls A0 c0 l0 w hr0 hc0)
  have HG := Aside0.mk (idxOf_ge nvB l0)
  clear hr0 hc0
  go_enter Tryd.func57, Tryd.ntmps57
  go_wp2_with (go_at_call 94; refine HI.out.mono ?_; rintro e w' ⟨rfl, b1⟩; replace b1 := Aside0.mk b1)
  go_ret
  exact ⟨by rw [← HG.out]; first | rfl | simp, b1.out⟩
end Go.Proofs.YtbanemecfobonaaDoor.B
