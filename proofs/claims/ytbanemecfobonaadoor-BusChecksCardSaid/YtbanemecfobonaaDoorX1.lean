/- The helpers of the bus that look through lists of numbers: slices.IndexFunc and ContainsFunc at []int with a closure that captures nothing, valid and binary. -/
import Derived.Test.YtbanemecfobonaaDoorB0
namespace Go.Proofs.YtbanemecfobonaaDoor.B
open Go.RowKit Go.Proofs.YtbanemecfobonaaDoorW.PrintWords Go.Proofs.YtbanemecfobonaaDoorW.PrintLast Go.Proofs.YtbanemecfobonaaDoorW.PrintMore
set_option linter.unusedVariables false
set_option linter.unusedSimpArgs false

/-- The first index at which p holds, or -1. -/
def idxOf {α : Type} (p : α → Bool) (l : List α) : Int := match l.findIdx? p with | some i => (i : Int) | none => -1

theorem idxOf_none {α : Type} [Inhabited α] {d : α} (p : α → Bool) (l : List α) (h : ∀ j : Nat, j < l.length → p (l.getD j d) = false) : idxOf p l = -1 := by
  unfold idxOf
  rw [List.findIdx?_eq_none_iff.2]
  intro x hx
  obtain ⟨j, hj, rfl⟩ := List.getElem_of_mem hx
  have := h j hj
  rwa [List.getD_eq_getElem?_getD, List.getElem?_eq_getElem hj] at this
theorem idxOf_some {α : Type} {d : α} (p : α → Bool) (l : List α) (k : Int) (h0 : 0 ≤ k) (hk : k < l.length) (hp : p (l.getD k.toNat d) = true)
    (h : ∀ j : Nat, j < k.toNat → p (l.getD j d) = false) : idxOf p l = k := by
  have hk' : k.toNat < l.length := by omega
  have e : l.findIdx? p = some k.toNat := by
    rw [List.findIdx?_eq_some_iff_getElem]
    refine ⟨hk', ?_, fun j hj => ?_⟩
    · rwa [List.getD_eq_getElem?_getD, List.getElem?_eq_getElem hk'] at hp
    · have := h j hj
      rw [List.getD_eq_getElem?_getD, List.getElem?_eq_getElem (by omega)] at this
      simpa using this
  unfold idxOf
  rw [e]
  show ((k.toNat : Nat) : Int) = k
  omega

set_option maxHeartbeats 1000000 in
set_option maxRecDepth 100000 in
theorem IndexFunc_int.calls (p : Int → Bool) (F : Nat) (hE : ∀ args w, (callFunc F args).run Tryd.prog w = .ok (.enter F args) w) (hF : ∀ x w, Calls Tryd.prog F #[.int .i64 x] w fun e w' => e = .returned (.bool (p x)) ∧ Drawn0 w w')
    (A0 : Option Addr) (c0 : Nat) (l0 : List Int) (w : World) (hr0 : Kd.C (Kd.int .i64) w A0 l0.length l0) (hc0 : l0.length ≤ c0) :
    Calls Tryd.prog 82 #[.slice A0 l0.length c0, .func (.func F) #[] #[]] w fun e w' => e = .returned (.int .i64 (idxOf p l0)) ∧ Drawn0 w w' := by
  have HR0 := Aside0.mk hr0
  have HC0 := Aside0.mk hc0
  have HF := Aside0.mk hF
  clear hr0 hc0 hF
  have hlen : (l0.length : Int) ≤ 9223372036854775807 := by have := HR0.out.2.1; omega
  go_enter Tryd.func82, Tryd.ntmps82
  go_wp2
  go_loopg [8] l0.length (fun g v8 w' => ∃ k : Int, v8 = .int .i64 k ∧ 0 ≤ k ∧ k ≤ l0.length ∧ Aside0 (g = l0.length - k.toNat) ∧ Aside0 (∀ j : Nat, j < k.toNat → p (l0.getD j 0) = false) ∧ Drawn0 w w')
  case atStart => exact ⟨0, rfl, by omega, by omega, ⟨by simp⟩, ⟨fun j hj => by simp at hj⟩, by repeat (first | exact Drawn0.refl _ | apply Drawn0.step)⟩
  case round =>
    obtain ⟨k, rfl, hk0, hk, HG, HP, ⟨m1, rfl⟩⟩ := hrel
    by_cases hlt : k < l0.length
    · obtain ⟨ad, e0, hx⟩ := Kd.at_int HR0.out k hk0 hlt
      cases e0
      cases hpx : p (rd l0 k)
      · have HX := Aside0.mk hpx
        go_wp2_with (refine (HF.out _ _).mono ?_; rintro e w' ⟨rfl, ⟨nd, rfl⟩⟩)
        go_roundg (gk - 1)
        case measure => have := HG.out; omega
        case rel => exact ⟨k + 1, rfl, by omega, by omega, ⟨by have := HG.out; omega⟩, ⟨fun j hj => by
          rcases Nat.lt_or_ge j k.toNat with h | h
          · exact HP.out j h
          · have : j = k.toNat := by omega
            subst this
            exact HX.out⟩, by repeat (first | exact Drawn0.refl _ | apply Drawn0.step)⟩
      · have HX := Aside0.mk hpx
        go_wp2_with (refine (HF.out _ _).mono ?_; rintro e w' ⟨rfl, ⟨nd, rfl⟩⟩)
        go_ret
        have hid : idxOf p l0 = k := idxOf_some p l0 k hk0 hlt HX.out HP.out
        exact ⟨by simp [hid], by repeat (first | exact Drawn0.refl _ | apply Drawn0.step)⟩
    · have hn : idxOf p l0 = -1 := idxOf_none p l0 (fun j hj => HP.out j (by omega))
      have HN := Aside0.mk hn
      clear hn
      go_wp2_with fail
      go_ret
      exact ⟨by rw [HN.out]; first | rfl | simp, by repeat (first | exact Drawn0.refl _ | apply Drawn0.step)⟩

theorem idxOf_ge {α : Type} (p : α → Bool) (l : List α) : decide (idxOf p l ≥ 0) = l.any p := by
  unfold idxOf
  cases h : l.findIdx? p with
  | none =>
    rw [List.findIdx?_eq_none_iff] at h
    have : l.any p = false := by simpa [List.any_eq_false] using h
    rw [this]; rfl
  | some i =>
    obtain ⟨hi, hp, _⟩ := List.findIdx?_eq_some_iff_getElem.1 h
    have : l.any p = true := List.any_eq_true.2 ⟨_, List.getElem_mem hi, hp⟩
    rw [this]
    simp

/-- Whoever names a function of the program enters it. -/
theorem enter_of {F : Nat} {fn : Func} (hf : Tryd.prog.funcs[F]? = some fn) (hname : (fn.name == "runtime.NumGoroutine") = false) (hb : fn.body.isSome = true) :
    ∀ (args : Array Value) (w : World), (callFunc F args).run Tryd.prog w = .ok (.enter F args) w := fun args w => enters_ hf hname hb args w

set_option maxHeartbeats 1000000 in
theorem ContainsFunc_int.calls (p : Int → Bool) (F : Nat) (hE : ∀ args w, (callFunc F args).run Tryd.prog w = .ok (.enter F args) w) (hF : ∀ x w, Calls Tryd.prog F #[.int .i64 x] w fun e w' => e = .returned (.bool (p x)) ∧ Drawn0 w w')
    (A0 : Option Addr) (c0 : Nat) (l0 : List Int) (w : World) (hr0 : Kd.C (Kd.int .i64) w A0 l0.length l0) (hc0 : l0.length ≤ c0) :
    Calls Tryd.prog 80 #[.slice A0 l0.length c0, .func (.func F) #[] #[]] w fun e w' => e = .returned (.bool (l0.any p)) ∧ Drawn0 w w' := by
  have HI := Aside0.mk (IndexFunc_int.calls p F hE hF A0 c0 l0)
  have HR0 := Aside0.mk hr0
  have HC0 := Aside0.mk hc0
  have HG := Aside0.mk (idxOf_ge p l0)
  clear hr0 hc0 hF hE
  go_enter Tryd.func80, Tryd.ntmps80
  go_wp2_with (go_at_call 82; refine (HI.out _ HR0.out HC0.out).mono ?_; rintro e w' ⟨rfl, ⟨nd, rfl⟩⟩)
  go_ret
  exact ⟨by rw [← HG.out]; first | rfl | simp, by repeat (first | exact Drawn0.refl _ | apply Drawn0.step)⟩

set_option maxHeartbeats 1000000 in
theorem bus_valid1.calls (x : Int) (w : World) : Calls Tryd.prog 90 #[.int .i64 x] w fun e w' => e = .returned (.bool (decide (x < 0) || decide (255 < x))) ∧ Drawn0 w w' := by
  by_cases h1 : x < 0
  · have e1 : (decide (x < 0) || decide (255 < x)) = true := by simp [h1]
    have E1 := Aside0.mk e1
    clear e1
    go_enter Tryd.func90, Tryd.ntmps90
    go_wp2
    go_ret
    exact ⟨by rw [E1.out]; first | rfl | simp, by repeat (first | exact Drawn0.refl _ | apply Drawn0.step)⟩
  · have e1 : (decide (x < 0) || decide (255 < x)) = decide (255 < x) := by simp [h1]
    have E1 := Aside0.mk e1
    clear e1
    go_enter Tryd.func90, Tryd.ntmps90
    go_wp2
    go_ret
    exact ⟨by rw [E1.out]; first | rfl | simp, by repeat (first | exact Drawn0.refl _ | apply Drawn0.step)⟩

set_option maxHeartbeats 1000000 in
theorem bus_binary1.calls (x : Int) (w : World) : Calls Tryd.prog 93 #[.int .i64 x] w fun e w' => e = .returned (.bool (x != 0 && x != 1)) ∧ Drawn0 w w' := by
  by_cases h1 : x = 0
  · subst h1
    go_enter Tryd.func93, Tryd.ntmps93
    go_wp2
    go_ret
    exact ⟨by first | rfl | simp, by repeat (first | exact Drawn0.refl _ | apply Drawn0.step)⟩
  · have h2 : (x != 0) = true := bne_iff_ne.2 h1
    have h3 : (x == 0) = false := beq_eq_false_iff_ne.2 h1
    have e1 : (x != 0 && x != 1) = (x != 1) := by rw [h2]; rfl
    have E1 := Aside0.mk e1
    clear e1
    go_enter Tryd.func93, Tryd.ntmps93
    go_wp2
    go_ret
    exact ⟨by rw [E1.out]; first | rfl | simp, by repeat (first | exact Drawn0.refl _ | apply Drawn0.step)⟩

/-- binary: at most 200 numbers, each 0 or 1. -/
def bus_binary.f (l0 : List Int) : Option Bool := some (decide (l0.length ≤ 200) && !l0.any (fun x => x != 0 && x != 1))

set_option maxHeartbeats 1000000 in
theorem bus_binary.calls (A0 : Option Addr) (c0 : Nat) (l0 : List Int) (r : Bool) (w : World) (hr0 : Kd.C (Kd.int .i64) w A0 l0.length l0) (hc0 : l0.length ≤ c0) (h : bus_binary.f l0 = some r) :
    Calls Tryd.prog 46 #[.slice A0 l0.length c0] w fun e w' => e = .returned (.bool r) ∧ Drawn0 w w' := by
  have HI := Aside0.mk (ContainsFunc_int.calls _ 93 (enter_of Tryd.func93 (by kernel_rfl) rfl) bus_binary1.calls A0 c0 l0)
  have HR0 := Aside0.mk hr0
  have HC0 := Aside0.mk hc0
  have hE := enter_of Tryd.func80 (by kernel_rfl) rfl
  clear hr0 hc0
  unfold bus_binary.f at h
  by_cases h1 : l0.length ≤ 200
  · have e1 : r = !l0.any (fun x => x != 0 && x != 1) := by simpa [h1] using h.symm
    have E1 := Aside0.mk e1
    clear e1 h
    go_enter Tryd.func46, Tryd.ntmps46
    go_wp2_with (go_at_call 80; refine (HI.out _ HR0.out HC0.out).mono ?_; rintro e w' ⟨rfl, ⟨nd, rfl⟩⟩)
    go_ret
    exact ⟨by rw [E1.out]; first | rfl | simp, by repeat (first | exact Drawn0.refl _ | apply Drawn0.step)⟩
  · have e1 : r = false := by simpa [h1] using h.symm
    subst e1
    clear h
    go_enter Tryd.func46, Tryd.ntmps46
    go_wp2
    go_ret
    exact ⟨by first | rfl | simp, by repeat (first | exact Drawn0.refl _ | apply Drawn0.step)⟩

/-- valid: a frame's number and bytes. -/
def bus_valid.f (a0 : Int) (l : List Int) : Option Bool := some (decide (0 ≤ a0) && decide (a0 ≤ 2047) && decide (l.length ≤ 8) && !l.any (fun x => decide (x < 0) || decide (255 < x)))

set_option maxHeartbeats 1000000 in
set_option maxRecDepth 100000 in
theorem bus_valid.calls (a0_0 : Int) (A0_1 : Option Addr) (c0_1 : Nat) (l0_1 : List Int) (r : Bool) (w : World) (hr0_1 : Kd.C (Kd.int .i64) w A0_1 l0_1.length l0_1) (hc0_1 : l0_1.length ≤ c0_1) (h : bus_valid.f a0_0 l0_1 = some r) :
    Calls Tryd.prog 44 #[.agg #[.int .i64 a0_0, .slice A0_1 l0_1.length c0_1]] w fun e w' => e = .returned (.bool r) ∧ Below w.heap.size w w' := by
  have HI := Aside0.mk (ContainsFunc_int.calls _ 90 (enter_of Tryd.func90 (by kernel_rfl) rfl) bus_valid1.calls A0_1 c0_1 l0_1)
  have HR0 := Aside0.mk hr0_1
  have HC0 := Aside0.mk hc0_1
  have hE := enter_of Tryd.func80 (by kernel_rfl) rfl
  have HB := Aside0.mk (Below.refl w.heap.size w)
  clear hr0_1 hc0_1
  unfold bus_valid.f at h
  by_cases h1 : 0 ≤ a0_0
  · by_cases h2 : a0_0 ≤ 2047
    · by_cases h3 : l0_1.length ≤ 8
      · have e1 : r = !l0_1.any (fun x => decide (x < 0) || decide (255 < x)) := by simpa [h1, h2, h3] using h.symm
        have E1 := Aside0.mk e1
        clear e1 h
        go_enter Tryd.func44, Tryd.ntmps44
        go_wp2_with (go_at_call 80; refine (HI.out _ (by repeat (first | exact HR0.out | (with_reducible refine Kd.C_alloc ?_ _) | (with_reducible refine Kd.C_drewN ?_ _) | (with_reducible refine Kd.C_drew ?_))) HC0.out).mono ?_; rintro e w' ⟨rfl, ⟨nd, rfl⟩⟩)
        go_ret
        exact ⟨by rw [E1.out]; first | rfl | simp, by repeat (first | exact HB.out | apply below_alloc | apply pw_below_drewN | apply below_drew1)⟩
      · have e1 : r = false := by simpa [h1, h2, h3] using h.symm
        subst e1
        clear h
        go_enter Tryd.func44, Tryd.ntmps44
        go_wp2
        go_ret
        exact ⟨by first | rfl | simp, by repeat (first | exact HB.out | apply below_alloc | apply pw_below_drewN | apply below_drew1)⟩
    · have e1 : r = false := by simpa [h1, h2] using h.symm
      subst e1
      clear h
      go_enter Tryd.func44, Tryd.ntmps44
      go_wp2
      go_ret
      exact ⟨by first | rfl | simp, by repeat (first | exact HB.out | apply below_alloc | apply pw_below_drewN | apply below_drew1)⟩
  · have e1 : r = false := by simpa [h1] using h.symm
    subst e1
    clear h
    go_enter Tryd.func44, Tryd.ntmps44
    go_wp2
    go_ret
    exact ⟨by first | rfl | simp, by repeat (first | exact HB.out | apply below_alloc | apply pw_below_drewN | apply below_drew1)⟩

end Go.Proofs.YtbanemecfobonaaDoor.B
