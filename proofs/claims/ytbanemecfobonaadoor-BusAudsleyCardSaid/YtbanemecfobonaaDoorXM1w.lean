/- Written by a program (lite.py) from my texts. -/
import Derived.Test.YtbanemecfobonaaDoorB0w
import Derived.Test.YtbanemecfobonaaDoorBAw
import Derived.Maps.Own
import Derived.Maps.OwnOps
import Derived.Maps.Views
namespace Go.Proofs.YtbanemecfobonaaDoor.B
open Go.RowKit Go.Proofs.YtbanemecfobonaaDoorW.PrintWords Go.Proofs.YtbanemecfobonaaDoorW.PrintLast Go.Proofs.YtbanemecfobonaaDoorW.PrintMore
set_option linter.unusedVariables false
set_option linter.unusedSimpArgs false
def idxOf {α : Type} (p : α → Bool) (l : List α) : Int := match l.findIdx? p with | some i => (i : Int) | none => -1
theorem idxOf_none {α : Type} [Inhabited α] {d : α} (p : α → Bool) (l : List α) (h : ∀ j : Nat, j < l.length → p (l.getD j d) = false) : idxOf p l = -1 := by
  unfold idxOf
  rw [List.findIdx?_eq_none_iff.2]
  intro x hx
  obtain ⟨j, hj, rfl⟩ := List.getElem_of_mem hx
  have := h j hj
  rwa [List.getD_eq_getElem?_getD, List.getElem?_eq_getElem hj] at this
theorem idxOf_some {α : Type} {d : α} (p : α → Bool) (l : List α) (k : Int) (h0 : 0 ≤ k) (hk : k < l.length) (hp : p (l.getD k.toNat d) = true)
    (h : ∀ j : Nat, j < k.toNat → p (l.getD j d) = false) : idxOf p l = k := by
  have hk' : k.toNat < l.length := by omega
  have e : l.findIdx? p = some k.toNat := by
    rw [List.findIdx?_eq_some_iff_getElem]
    refine ⟨hk', ?_, fun j hj => ?_⟩
    · rwa [List.getD_eq_getElem?_getD, List.getElem?_eq_getElem hk'] at hp
    · have := h j hj
      rw [List.getD_eq_getElem?_getD, List.getElem?_eq_getElem z3] at this
      simpa using this
  unfold idxOf
  rw [e]
  show ((k.toNat : Nat) : Int) = k
  omega
set_option maxHeartbeats 1000000 in
set_option maxRecDepth 100000 in
theorem IndexFunc_int.calls (p : Int → Bool) (F : Nat) (hE : ∀ args w, (callFunc F args).run Tryd.prog w = .ok (.enter F args) w) (hF : ∀ x w, Calls Tryd.prog F #[.int .i64 x] w fun e w' => e = .returned (.bool (p x)) ∧ Drawn0 w w')
    (A0 : Option Addr) (c0 : Nat) (l0 : List Int) (w : World) (hr0 : Kd.C (Kd.int .i64) w A0 l0.length l0) (hc0 : l0.length ≤ c0) :
    Calls Tryd.prog 82 #[.slice A0 l0.length c0, .func (.func F) #[] #[]] w fun e w' => e = .returned (.int .i64 (idxOf p l0)) ∧ Drawn0 w w' := by
  have HR0 := aM hr0; have HC0 := aM hc0; have HF := aM hF; clear hr0 hc0 hF; (have hlen : (l0.length : Int) ≤ 9223372036854775807 := by have := HR0.out.2.1; omega); (go_enter Tryd.func82, Tryd.ntmps82); go_wp2; (go_loopg [8] l0.length (fun g v8 w' => ∃ k : Int, v8 = .int .i64 k ∧ 0 ≤ k ∧ k ≤ l0.length ∧ Aside0 (g = l0.length - k.toNat) ∧ Aside0 (∀ j : Nat, j < k.toNat → p (l0.getD j 0) = false) ∧ Drawn0 w w')); (case atStart => exact ⟨0, rfl, by omega, by omega, ⟨by simp⟩, ⟨fun j hj => by simp at hj⟩, by repeat (first | exact Drawn0.refl _ | apply Drawn0.step)⟩)
  case round =>
   obtain ⟨k, rfl, hk0, hk, HG, HP, ⟨m1, rfl⟩⟩ := hrel; by_cases hlt : k < l0.length; rotate_left
   · (have hn : idxOf p l0 = -1 := idxOf_none p l0 (fun j hj => HP.out j z3)); have HN := aM hn; clear hn; (go_wp2_with fail); go_ret; (exact ⟨by rw [HN.out]; first | rfl | simp, by repeat (first | exact Drawn0.refl _ | apply Drawn0.step)⟩)
   (obtain ⟨ad, e0, hx⟩ := Kd.at_int HR0.out k hk0 hlt); cases e0; (cases hpx : p (rd l0 k)); rotate_left
   · have HX := aM hpx; (go_wp2_with (refine (HF.out _ _).mono ?_; rintro e w' ⟨rfl, ⟨nd, rfl⟩⟩)); go_ret; (have hid : idxOf p l0 = k := idxOf_some p l0 k hk0 hlt HX.out HP.out); (exact ⟨by simp [hid], by repeat (first | exact Drawn0.refl _ | apply Drawn0.step)⟩)
   have HX := aM hpx; (go_wp2_with (refine (HF.out _ _).mono ?_; rintro e w' ⟨rfl, ⟨nd, rfl⟩⟩)); (go_roundg (gk - 1)); (case measure => have := HG.out; omega)
   case rel => exact ⟨k + 1, rfl, by omega, by omega, ⟨by have := HG.out; omega⟩, ⟨fun j hj => by
     rcases Nat.lt_or_ge j k.toNat with h | h
     · exact HP.out j h
     · have : j = k.toNat := by omega
       subst this
       exact HX.out⟩, by repeat (first | exact Drawn0.refl _ | apply Drawn0.step)⟩
theorem idxOf_ge {α : Type} (p : α → Bool) (l : List α) : decide (idxOf p l ≥ 0) = l.any p := by
  unfold idxOf
  cases h : l.findIdx? p with
  | none =>
    rw [List.findIdx?_eq_none_iff] at h
    have : l.any p = false := by simpa [List.any_eq_false] using h
    rw [this]; rfl
  | some i =>
    obtain ⟨hi, hp, _⟩ := List.findIdx?_eq_some_iff_getElem.1 h
    have : l.any p = true := List.any_eq_true.2 ⟨_, List.getElem_mem hi, hp⟩
    rw [this]
    simp
theorem enter_of {F : Nat} {fn : Func} (hf : Tryd.prog.funcs[F]? = some fn) (hname : (fn.name == "runtime.NumGoroutine") = false) (hb : fn.body.isSome = true) :
    ∀ (args : Array Value) (w : World), (callFunc F args).run Tryd.prog w = .ok (.enter F args) w := fun args w => enters_ hf hname hb args w
set_option maxHeartbeats 1000000 in
theorem ContainsFunc_int.calls (p : Int → Bool) (F : Nat) (hE : ∀ args w, (callFunc F args).run Tryd.prog w = .ok (.enter F args) w) (hF : ∀ x w, Calls Tryd.prog F #[.int .i64 x] w fun e w' => e = .returned (.bool (p x)) ∧ Drawn0 w w')
    (A0 : Option Addr) (c0 : Nat) (l0 : List Int) (w : World) (hr0 : Kd.C (Kd.int .i64) w A0 l0.length l0) (hc0 : l0.length ≤ c0) :
    Calls Tryd.prog 80 #[.slice A0 l0.length c0, .func (.func F) #[] #[]] w fun e w' => e = .returned (.bool (l0.any p)) ∧ Drawn0 w w' := by
  have HI := aM (IndexFunc_int.calls p F hE hF A0 c0 l0)
  have HR0 := aM hr0
  have HC0 := aM hc0
  have HG := aM (idxOf_ge p l0)
  clear hr0 hc0 hF hE
  go_enter Tryd.func80, Tryd.ntmps80
  go_wp2_with (go_at_call 82; refine (HI.out _ HR0.out HC0.out).mono ?_; rintro e w' ⟨rfl, ⟨nd, rfl⟩⟩)
  go_ret
  exact ⟨by rw [← HG.out]; first | rfl | simp, by repeat (first | exact Drawn0.refl _ | apply Drawn0.step)⟩
set_option maxHeartbeats 1000000 in
theorem bus_valid1.calls (x : Int) (w : World) : Calls Tryd.prog 90 #[.int .i64 x] w fun e w' => e = .returned (.bool (decide (x < 0) || decide (255 < x))) ∧ Drawn0 w w' := by
  by_cases h1 : x < 0
  · have e1 : (decide (x < 0) || decide (255 < x)) = true := by simp [h1]
    have E1 := aM e1
    clear e1
    go_enter Tryd.func90, Tryd.ntmps90
    go_wp2
    go_ret
    exact ⟨by rw [E1.out]; first | rfl | simp, by repeat (first | exact Drawn0.refl _ | apply Drawn0.step)⟩
  · have e1 : (decide (x < 0) || decide (255 < x)) = decide (255 < x) := by simp [h1]
    have E1 := aM e1
    clear e1
    go_enter Tryd.func90, Tryd.ntmps90
    go_wp2
    go_ret
    exact ⟨by rw [E1.out]; first | rfl | simp, by repeat (first | exact Drawn0.refl _ | apply Drawn0.step)⟩
set_option maxHeartbeats 1000000 in
theorem bus_binary1.calls (x : Int) (w : World) : Calls Tryd.prog 93 #[.int .i64 x] w fun e w' => e = .returned (.bool (x != 0 && x != 1)) ∧ Drawn0 w w' := by
  by_cases h1 : x = 0
  · subst h1
    go_enter Tryd.func93, Tryd.ntmps93
    go_wp2
    go_ret
    exact ⟨by first | rfl | simp, by repeat (first | exact Drawn0.refl _ | apply Drawn0.step)⟩
  · have h2 : (x != 0) = true := bne_iff_ne.2 h1
    have h3 : (x == 0) = false := beq_eq_false_iff_ne.2 h1
    have e1 : (x != 0 && x != 1) = (x != 1) := by rw [h2]; rfl
    have E1 := aM e1
    clear e1
    go_enter Tryd.func93, Tryd.ntmps93
    go_wp2
    go_ret
    exact ⟨by rw [E1.out]; first | rfl | simp, by repeat (first | exact Drawn0.refl _ | apply Drawn0.step)⟩
def bus_binary.f (l0 : List Int) : Option Bool := some (decide (l0.length ≤ 200) && !l0.any (fun x => x != 0 && x != 1))
set_option maxHeartbeats 1000000 in
theorem bus_binary.calls (A0 : Option Addr) (c0 : Nat) (l0 : List Int) (r : Bool) (w : World) (hr0 : Kd.C (Kd.int .i64) w A0 l0.length l0) (hc0 : l0.length ≤ c0) (h : bus_binary.f l0 = some r) :
    Calls Tryd.prog 46 #[.slice A0 l0.length c0] w fun e w' => e = .returned (.bool r) ∧ Drawn0 w w' := by
  have HI := aM (ContainsFunc_int.calls _ 93 (enter_of Tryd.func93 z9 rfl) bus_binary1.calls A0 c0 l0)
  have HR0 := aM hr0
  have HC0 := aM hc0
  have hE := enter_of Tryd.func80 z9 rfl
  clear hr0 hc0
  unfold bus_binary.f at h
  by_cases h1 : l0.length ≤ 200
  · have e1 : r = !l0.any (fun x => x != 0 && x != 1) := by simpa [h1] using h.symm
    have E1 := aM e1
    clear e1 h
    go_enter Tryd.func46, Tryd.ntmps46
    go_wp2_with (go_at_call 80; refine (HI.out _ HR0.out HC0.out).mono ?_; rintro e w' ⟨rfl, ⟨nd, rfl⟩⟩)
    go_ret
    exact ⟨by rw [E1.out]; first | rfl | simp, by repeat (first | exact Drawn0.refl _ | apply Drawn0.step)⟩
  · have e1 : r = false := by simpa [h1] using h.symm
    subst e1
    clear h
    go_enter Tryd.func46, Tryd.ntmps46
    go_wp2
    go_ret
    exact ⟨by first | rfl | simp, by repeat (first | exact Drawn0.refl _ | apply Drawn0.step)⟩
def bus_valid.f (a0 : Int) (l : List Int) : Option Bool := some (decide (0 ≤ a0) && decide (a0 ≤ 2047) && decide (l.length ≤ 8) && !l.any (fun x => decide (x < 0) || decide (255 < x)))
set_option maxHeartbeats 1000000 in
set_option maxRecDepth 100000 in
theorem bus_valid.calls (a0_0 : Int) (A0_1 : Option Addr) (c0_1 : Nat) (l0_1 : List Int) (r : Bool) (w : World) (hr0_1 : Kd.C (Kd.int .i64) w A0_1 l0_1.length l0_1) (hc0_1 : l0_1.length ≤ c0_1) (h : bus_valid.f a0_0 l0_1 = some r) :
    Calls Tryd.prog 44 #[.agg #[.int .i64 a0_0, .slice A0_1 l0_1.length c0_1]] w fun e w' => e = .returned (.bool r) ∧ Below w.heap.size w w' := by
  (have HI := aM (ContainsFunc_int.calls _ 90 (enter_of Tryd.func90 z9 rfl) bus_valid1.calls A0_1 c0_1 l0_1)); have HR0 := aM hr0_1; have HC0 := aM hc0_1; (have hE := enter_of Tryd.func80 z9 rfl); (have HB := aM (Below.refl w.heap.size w)); clear hr0_1 hc0_1; (unfold bus_valid.f at h); by_cases h1 : 0 ≤ a0_0; rotate_left
  · (have e1 : r = false := by simpa [h1] using h.symm); subst e1; clear h; (go_enter Tryd.func44, Tryd.ntmps44); go_wp2; go_ret; (exact ⟨by first | rfl | simp, by repeat (first | exact HB.out | apply below_alloc | apply pw_below_drewN | apply below_drew1)⟩)
  by_cases h2 : a0_0 ≤ 2047; rotate_left
  · (have e1 : r = false := by simpa [h1, h2] using h.symm); subst e1; clear h; (go_enter Tryd.func44, Tryd.ntmps44); go_wp2; go_ret; (exact ⟨by first | rfl | simp, by repeat (first | exact HB.out | apply below_alloc | apply pw_below_drewN | apply below_drew1)⟩)
  by_cases h3 : l0_1.length ≤ 8; rotate_left
  · (have e1 : r = false := by simpa [h1, h2, h3] using h.symm); subst e1; clear h; (go_enter Tryd.func44, Tryd.ntmps44); go_wp2; go_ret; (exact ⟨by first | rfl | simp, by repeat (first | exact HB.out | apply below_alloc | apply pw_below_drewN | apply below_drew1)⟩)
  (have e1 : r = !l0_1.any (fun x => decide (x < 0) || decide (255 < x)) := by simpa [h1, h2, h3] using h.symm); have E1 := aM e1; clear e1 h; (go_enter Tryd.func44, Tryd.ntmps44); (go_wp2_with (go_at_call 80; refine (HI.out _ (by repeat (first | exact HR0.out | (with_reducible refine Kd.C_alloc ?_ _) | (with_reducible refine Kd.C_drewN ?_ _) | (with_reducible refine Kd.C_drew ?_))) HC0.out).mono ?_; rintro e w' ⟨rfl, ⟨nd, rfl⟩⟩)); go_ret; (exact ⟨by rw [E1.out]; first | rfl | simp, by repeat (first | exact HB.out | apply below_alloc | apply pw_below_drewN | apply below_drew1)⟩)
end Go.Proofs.YtbanemecfobonaaDoor.B
namespace Go.Proofs.YtbanemecfobonaaDoor.B
open Go.RowKit Go.Proofs.YtbanemecfobonaaDoorW.PrintWords Go.Proofs.YtbanemecfobonaaDoorW.PrintLast Go.Proofs.YtbanemecfobonaaDoorW.PrintMore
set_option linter.unusedVariables false
set_option linter.unusedSimpArgs false
def tailD : List Int := [1, 0, 1, 1, 1, 1, 1, 1, 1, 1, 1, 1, 1]
theorem tailD_length : tailD.length = 13 := rfl
def TailLaid (w : World) : Prop := ∃ A c, w.cell? ⟨0, 0, none⟩ = some (.slice A 13 c) ∧ 13 ≤ c ∧ Kd.C (Kd.int .i64) w A 13 tailD
theorem TailLaid.below {w w1 : World} (h : TailLaid w) (hb : Below w.heap.size w w1) : TailLaid w1 := by
  obtain ⟨A, c, hc, hl, hr⟩ := h
  exact ⟨A, c, pw_cell_below hb hc, hl, Kd.C_below hr hb⟩
def put1 (bit many b : Int) : Int × Int := if many > 0 then (if bit = b then (bit, wrap64 (many + 1)) else (b, 1)) else (b, 1)
theorem put1_f (bit many b : Int) : bus_row_put.f bit many b = some ((put1 bit many b).1, (put1 bit many b).2) := by
  unfold bus_row_put.f put1
  split
  · split <;> rfl
  · rfl
def stuffed : List Int → Int → Int → List Int
  | [], _, _ => []
  | b :: l, bit, many =>
    if (put1 bit many b).2 = 5 then b :: wrap64 (1 - b) :: stuffed l (put1 (put1 bit many b).1 (put1 bit many b).2 (wrap64 (1 - b))).1 (put1 (put1 bit many b).1 (put1 bit many b).2 (wrap64 (1 - b))).2
    else b :: stuffed l (put1 bit many b).1 (put1 bit many b).2
def bus_bitsOf.f (a0 : Int) (l : List Int) : Option (List Int) := (bus_plain.f 300 a0 l).bind fun p => if p.length ≤ 1000 then some (stuffed p 0 0 ++ tailD) else none
theorem keepS78 {w0 W W1 : World} {g : Nat} {b m : Int} {base : Nat} {ok : Nat → Prop} {v : Value} {xs : List Int} (hI : IsS78 w0 W g b m) (hk : KeepBut W W1 g none) (ho : Kd.R (Kd.int .i64) 3 W base ok v xs) : Kd.R (Kd.int .i64) 3 W1 base ok v xs :=
  Kd.R_mono (Kd.R_keep (IsS78.apart hI ho z10) hk (fun _ hk => hk.2)) (fun _ hk => hk.1)
set_option maxHeartbeats 8000000 in
set_option maxRecDepth 100000 in
theorem bus_bitsOf.calls (a0_0 : Int) (A0_1 : Option Addr) (c0_1 : Nat) (l0_1 : List Int) (r : List Int) (w : World) (hr0_1 : Kd.C (Kd.int .i64) w A0_1 l0_1.length l0_1) (hc0_1 : l0_1.length ≤ c0_1) (h : bus_bitsOf.f a0_0 l0_1 = some r) (ht : TailLaid w) :
    Calls Tryd.prog 45 #[.agg #[.int .i64 a0_0, .slice A0_1 l0_1.length c0_1]] w fun e w' => ∃ v0_ : Value, e = .returned (v0_) ∧ Kd.R (Kd.int .i64) 3 w' w.heap.size (fun _ => True) v0_ r ∧ Below w.heap.size w w' := by
  have HR0 := aM hr0_1; have HC0 := aM hc0_1; have HT := aM ht; (have HB := aM (Below.refl w.heap.size w)); have hu24 := Tryd.underlying24; clear hr0_1 hc0_1 ht; (unfold bus_bitsOf.f at h); (obtain ⟨p, hp, h⟩ := Option.bind_eq_some_iff.1 h)
  have hpl : p.length ≤ 1000 := by
    rcases Nat.lt_or_ge 1000 p.length with hl | hl
    · rw [if_neg z3] at h; exact absurd h (by simp)
    · exact hl
  rw [if_pos hpl] at h; (obtain rfl := sI h); have HP := aM hp; have HPL := aM hpl; clear h hp hpl; (go_enter Tryd.func45, Tryd.ntmps45); (go_wp2_with fail); (refine (bus_plain.calls 300 a0_0 _ _ l0_1 p _ ?s1 HC0.out HP.out).mono ?_); (case s1 => exact Kd.C_alloc (Kd.C_alloc HR0.out _) _); (rintro e w1 ⟨vp, rfl, hop, hb⟩); (have hB1 : Below w.heap.size w w1 := below_step (by repeat (first | exact HB.out | apply below_alloc)) hb)
  have hS1 : IsS78 w w1 (w.heap.size + 1) 0 0 := by
    have h0 := IsS78.new w (w.alloc (.cells #[.int .i64 a0_0, .slice A0_1 l0_1.length c0_1] 24)) 0 0 (by repeat (first | exact HB.out | apply below_alloc))
    have h1 := IsS78.below h0 hb
    simpa using h1
  (have hop1 : Kd.R (Kd.int .i64) 3 w1 w.heap.size (fun _ => True) vp p := Kd.R_lower hop (by simp; omega)); clear HB hop hb; have HB := aM hB1; have HI := aM hS1; have HOP := aM hop1; clear hB1 hS1 hop1; (obtain ⟨Ap, cp, rfl⟩ := Kd.R_slice HOP.out); (go_wp2_with fail); (go_loopg [3, 10] p.length (fun gq v3 v10 w' => ∃ (x : Int) (xs : List Int) (bit many : Int), v10 = .int .i64 x ∧ 0 ≤ x ∧ x ≤ p.length ∧ Aside0 (gq = p.length - x.toNat) ∧ Aside0 (xs ++ stuffed (p.drop x.toNat) bit many = stuffed p 0 0) ∧ Aside0 (xs.length ≤ 2 * x.toNat) ∧ Aside0 (IsS78 w w' (w.heap.size + 1) bit many) ∧ Aside0 (Kd.R (Kd.int .i64) 3 w' w.heap.size (fun k_ => True ∧ some k_ ≠ (v3 : Value).ownBlock) (.slice Ap p.length cp) p) ∧ Aside0 (Kd.R (Kd.int .i64) 3 w' w.heap.size (fun k_ => some k_ ≠ (.slice Ap p.length cp : Value).ownBlock) v3 xs) ∧ Aside0 (Below w.heap.size w w'))); (case atStart => exact ⟨0, [], 0, 0, rfl, by omega, by omega, ⟨by simp⟩, ⟨by simp⟩, ⟨by simp⟩, HI, ⟨Kd.R_mono HOP.out (fun _ hk => ⟨trivial, by simp [Value.ownBlock]⟩)⟩, ⟨Kd.R_nil _ _ _ _ _⟩, HB⟩)
  case round =>
   clear HI HOP HB; obtain ⟨x, xs, bit, many, rfl, hx0, hxl, HG, HE, HL, HI, HOp, HOo, HB⟩ := hrel; (have hpl9 : (p.length : Int) ≤ 1000 := by have := HPL.out; omega); by_cases hlt : x < p.length; rotate_left
   · (obtain ⟨At, ct, hct, hlt2, hrt⟩ := TailLaid.below HT.out HB.out); have HRT := aM hrt; (have hx : x = p.length := by omega); (have HE2 : Aside0 (stuffed p 0 0 = xs) := ⟨by rw [← HE.out, hx]; simp [stuffed]⟩); clear hrt hx; (go_wp2_with ((with_reducible refine gate_builtin (b := .append) (xs := #[.tmp 30, .tmp 31]) rfl ?_); at_builtin; refine Kd.R_append_rows (Kd.int .i64) (w0 := w) w.heap.size rfl (.tmp 30) (.tmp 31) 22 3 (.int .i64 0) 8 rfl Tryd.underlying22 info3 rfl z10 z3 u3 xs tailD _ _ _ (fun k_ => True) (fun _ => False) rfl rfl ?aO ?aR (fun _ _ h => h) (fun _ h => h.elim) ?aF ?aB ?aS ?aL ?_; (case aR => exact HRT.out); (case aB => exact HB.out); (case aF => exact fun _ _ => trivial); (case aO => exact Kd.R_mono HOo.out (fun _ _ => trivial)); (case aS => exact HB.out.size); (case aL => have := HL.out; have := HPL.out; omega); intro v1 w2 ho1 hb1 hg1 hat1; have Ho2 := aM ho1; have Hb2 := aM hb1; clear ho1 hb1 hg1 hat1)); go_ret; (exact ⟨_, rfl, by rw [HE2.out]; exact Ho2.out, Hb2.out⟩)
   (obtain ⟨ad, e0, hxc⟩ := Kd.at_int (Kd.R_reads' HOp.out).2.2 x hx0 hlt); cases e0
   have hdrop : p.drop x.toNat = rd p x :: p.drop (x + 1).toNat := by
     have e1 : (x + 1).toNat = x.toNat + 1 := by omega
     have h1 : x.toNat < p.length := by omega
     rw [e1, List.drop_eq_getElem_cons h1]
     congr 1
     simp [rd, List.getD_eq_getElem?_getD, List.getElem?_eq_getElem h1]
   have HD := aM hdrop; clear hdrop; by_cases h5 : (put1 bit many (rd p x)).2 = 5; rotate_left
   · (have hb5 : ((put1 bit many (rd p x)).2 == 5) = false := beq_eq_false_iff_ne.2 h5); have H5 := aM h5; clear h5; (go_wp2_with ((with_reducible refine gate_builtin (b := .append) (xs := #[.tmp 14, .tmp 16]) rfl ?_); at_builtin; refine Kd.R_append (Kd.int .i64) (w0 := w) w.heap.size rfl (.tmp 14) (.tmp 16) 22 3 (.int .i64 0) 8 rfl Tryd.underlying22 info3 rfl z10 z3 u3 (xs) (rd p x) [.int .i64 (rd p x)] (fun k_ => some k_ ≠ (.slice (some ad) p.length cp : Value).ownBlock) (fun _ => False) rfl rfl ?aP (fun _ hk => hk.elim) ?aF ?aO ?aB ?aS ?aL ?_; (case aP => exact rfl); (case aB => exact HB.out); (case aF => exact (fun k_ hk => Kd.fresh' (Kd.R_lt HOp.out) k_ hk)); (case aO => exact HOo.out); (case aS => exact HB.out.size); (case aL => have := HL.out; have := HPL.out; simp; omega); intro v2 w2 ho1 hb1 hg1 hat1; have Ho2 := aM ho1; have Hb2 := aM hb1; have Hg2 := aM hg1; have Ha2 := aM hat1; clear ho1 hb1 hg1 hat1)); (have HOp2 := aM (Kd.R_after (ok := fun _ => True) HOp.out Hg2.out Ha2.out)); (have HI2 := aM (IsS78.grown HI.out Hg2.out (IsS78.own_ne HI.out HOo.out z10))); (refine (bus_row_put.calls (w.heap.size + 1) (bit) (many) (rd p x) _ _ w _ HI2.out Hb2.out (put1_f _ _ _)).mono ?_); (rintro e w3 ⟨rfl, hi3, hb3, hk3⟩); have HI3 := aM hi3; have Hb3 := aM hb3; (have Ho3 := aM (keepS78 HI2.out hk3 Ho2.out)); (have HOp3 := aM (keepS78 HI2.out hk3 HOp2.out)); clear hi3 hb3 hk3; (go_wp2_with fail); (refine (bus_row_full.calls (w.heap.size + 1) ((put1 bit many (rd p x)).1) ((put1 bit many (rd p x)).2) _ _ _ w _ HI3.out Hb3.out rfl).mono ?_)
     (rintro e w4 ⟨rfl, hi4, hb4, hk4⟩); have HI4 := aM hi4; have Hb4 := aM hb4; (have Ho4 := aM (keepS78 HI3.out hk4 Ho3.out)); (have HOp4 := aM (keepS78 HI3.out hk4 HOp3.out)); clear hi4 hb4 hk4; (go_wp2_with fail); (go_roundg (gk - 1)); (case measure => have := HG.out; omega); (case rel => exact ⟨x + 1, xs ++ [rd p x], (put1 bit many (rd p x)).1, (put1 bit many (rd p x)).2, rfl, by omega, by omega, ⟨by have := HG.out; omega⟩, ⟨by rw [← HE.out, HD.out, stuffed, if_neg H5.out]; simp⟩, ⟨by have := HL.out; simp; omega⟩, HI4, HOp4, Ho4, Hb4⟩)
   (have hb5 : ((put1 bit many (rd p x)).2 == 5) = true := beq_iff_eq.2 h5); have H5 := aM h5; clear h5; (go_wp2_with ((with_reducible refine gate_builtin (b := .append) (xs := #[.tmp 14, .tmp 16]) rfl ?_); at_builtin; refine Kd.R_append (Kd.int .i64) (w0 := w) w.heap.size rfl (.tmp 14) (.tmp 16) 22 3 (.int .i64 0) 8 rfl Tryd.underlying22 info3 rfl z10 z3 u3 (xs) (rd p x) [.int .i64 (rd p x)] (fun k_ => some k_ ≠ (.slice (some ad) p.length cp : Value).ownBlock) (fun _ => False) rfl rfl ?aP (fun _ hk => hk.elim) ?aF ?aO ?aB ?aS ?aL ?_; (case aP => exact rfl); (case aB => exact HB.out); (case aF => exact (fun k_ hk => Kd.fresh' (Kd.R_lt HOp.out) k_ hk)); (case aO => exact HOo.out); (case aS => exact HB.out.size); (case aL => have := HL.out; have := HPL.out; simp; omega); intro v2 w2 ho1 hb1 hg1 hat1; have Ho2 := aM ho1; have Hb2 := aM hb1; have Hg2 := aM hg1; have Ha2 := aM hat1; clear ho1 hb1 hg1 hat1)); (have HOp2 := aM (Kd.R_after (ok := fun _ => True) HOp.out Hg2.out Ha2.out)); (have HI2 := aM (IsS78.grown HI.out Hg2.out (IsS78.own_ne HI.out HOo.out z10))); (refine (bus_row_put.calls (w.heap.size + 1) (bit) (many) (rd p x) _ _ w _ HI2.out Hb2.out (put1_f _ _ _)).mono ?_); (rintro e w3 ⟨rfl, hi3, hb3, hk3⟩); have HI3 := aM hi3; have Hb3 := aM hb3; (have Ho3 := aM (keepS78 HI2.out hk3 Ho2.out)); (have HOp3 := aM (keepS78 HI2.out hk3 HOp2.out)); clear hi3 hb3 hk3; (go_wp2_with fail); (refine (bus_row_full.calls (w.heap.size + 1) ((put1 bit many (rd p x)).1) ((put1 bit many (rd p x)).2) _ _ _ w _ HI3.out Hb3.out rfl).mono ?_)
   (rintro e w4 ⟨rfl, hi4, hb4, hk4⟩); have HI4 := aM hi4; have Hb4 := aM hb4; (have Ho4 := aM (keepS78 HI3.out hk4 Ho3.out)); (have HOp4 := aM (keepS78 HI3.out hk4 HOp3.out)); clear hi4 hb4 hk4; (go_wp2_with ((with_reducible refine gate_builtin (b := .append) (xs := #[.tmp 21, .tmp 24]) rfl ?_); at_builtin; refine Kd.R_append (Kd.int .i64) (w0 := w) w.heap.size rfl (.tmp 21) (.tmp 24) 22 3 (.int .i64 0) 8 rfl Tryd.underlying22 info3 rfl z10 z3 v2 (xs ++ [rd p x]) (wrap64 (1 - rd p x)) [.int .i64 (wrap64 (1 - rd p x))] (fun k_ => some k_ ≠ (.slice (some ad) p.length cp : Value).ownBlock) (fun _ => False) rfl rfl ?aP (fun _ hk => hk.elim) ?aF ?aO ?aB ?aS ?aL ?_; (case aP => exact rfl); (case aB => exact Hb4.out); (case aF => exact (fun k_ hk => Kd.fresh' (Kd.R_lt HOp4.out) k_ hk)); (case aO => exact Ho4.out); (case aS => exact Hb4.out.size); (case aL => have := HL.out; have := HPL.out; simp; omega); intro v5 w5 ho1 hb1 hg1 hat1; have Ho5 := aM ho1; have Hb5 := aM hb1; have Hg5 := aM hg1; have Ha5 := aM hat1; clear ho1 hb1 hg1 hat1)); (have HOp5 := aM (Kd.R_after (ok := fun _ => True) HOp4.out Hg5.out Ha5.out)); (have HI5 := aM (IsS78.grown HI4.out Hg5.out (IsS78.own_ne HI4.out Ho4.out z10))); (refine (bus_row_put.calls (w.heap.size + 1) ((put1 bit many (rd p x)).1) ((put1 bit many (rd p x)).2) (wrap64 (1 - rd p x)) _ _ w _ HI5.out Hb5.out (put1_f _ _ _)).mono ?_); (rintro e w6 ⟨rfl, hi6, hb6, hk6⟩); have HI6 := aM hi6
   have Hb6 := aM hb6; (have Ho6 := aM (keepS78 HI5.out hk6 Ho5.out)); (have HOp6 := aM (keepS78 HI5.out hk6 HOp5.out)); clear hi6 hb6 hk6; (go_wp2_with fail); (go_roundg (gk - 1)); (case measure => have := HG.out; omega); (case rel => exact ⟨x + 1, xs ++ [rd p x] ++ [wrap64 (1 - rd p x)], (put1 (put1 bit many (rd p x)).1 (put1 bit many (rd p x)).2 (wrap64 (1 - rd p x))).1, (put1 (put1 bit many (rd p x)).1 (put1 bit many (rd p x)).2 (wrap64 (1 - rd p x))).2, rfl, by omega, by omega, ⟨by have := HG.out; omega⟩, ⟨by rw [← HE.out, HD.out, stuffed, if_pos H5.out]; simp⟩, ⟨by have := HL.out; simp; omega⟩, HI6, HOp6, Ho6, Hb6⟩)
end Go.Proofs.YtbanemecfobonaaDoor.B
namespace Go.Proofs.YtbanemecfobonaaDoor.B
open Go.RowKit Go.Proofs.YtbanemecfobonaaDoorW.PrintWords Go.Proofs.YtbanemecfobonaaDoorW.PrintLast Go.Proofs.YtbanemecfobonaaDoorW.PrintMore
set_option linter.unusedVariables false
set_option linter.unusedSimpArgs false
def IsRd (w0 W : World) (g : Nat) (A : Option Addr) (n c : Nat) (at_ bit many : Int) : Prop := W.heap[g]? = some (.cells #[.slice A n c, .int .i64 at_, .int .i64 bit, .int .i64 many] 80 (0, 0)) ∧ w0.heap.size ≤ g
section
variable {w0 W W1 : World} {g : Nat} {A : Option Addr} {n c : Nat} {at_ bit many : Int}
theorem IsRd.alloc (h : IsRd w0 W g A n c at_ bit many) (o : Obj) : IsRd w0 (W.alloc o) g A n c at_ bit many := ⟨blk_alloc h.1 o, h.2⟩
theorem IsRd.below (h : IsRd w0 W g A n c at_ bit many) (hb : Below W.heap.size W W1) : IsRd w0 W1 g A n c at_ bit many := ⟨blk_below h.1 hb, h.2⟩
theorem IsRd.grown (h : IsRd w0 W g A n c at_ bit many) {row : Option Nat} (hg : W.grownBy W1 row) (hne : some g ≠ row) : IsRd w0 W1 g A n c at_ bit many := ⟨blk_grown h.1 hg hne, h.2⟩
theorem IsRd.set_1 (h : IsRd w0 W g A n c at_ bit many) (x : Int) : IsRd w0 (W.setCell ⟨g, 1, none⟩ (.int .i64 x)) g A n c x bit many := ⟨blk_put h.1 1 _ rfl, h.2⟩
theorem IsRd.set_2 (h : IsRd w0 W g A n c at_ bit many) (x : Int) : IsRd w0 (W.setCell ⟨g, 2, none⟩ (.int .i64 x)) g A n c at_ x many := ⟨blk_put h.1 2 _ rfl, h.2⟩
theorem IsRd.set_3 (h : IsRd w0 W g A n c at_ bit many) (x : Int) : IsRd w0 (W.setCell ⟨g, 3, none⟩ (.int .i64 x)) g A n c at_ bit x := ⟨blk_put h.1 3 _ rfl, h.2⟩
theorem IsRd.own_ne {base : Nat} {ok : Nat → Prop} {v : Value} {xs : List Int} (h : IsRd w0 W g A n c at_ bit many) (ho : Kd.R (Kd.int .i64) 3 W base ok v xs) : some g ≠ v.ownBlock := Kd.R_ne ho h.1 z10
theorem IsRd.keep {base : Nat} {ok : Nat → Prop} {v : Value} {xs : List Int} (h : IsRd w0 W g A n c at_ bit many) (hk : KeepBut W W1 g none) (ho : Kd.R (Kd.int .i64) 3 W base ok v xs) : Kd.R (Kd.int .i64) 3 W1 base ok v xs :=
  Kd.R_mono (Kd.R_keep (Kd.R_types ho h.1 z10) hk (fun _ hk => hk.2)) (fun _ hk => hk.1)
end
set_option maxHeartbeats 8000000 in
set_option maxRecDepth 100000 in
theorem row80_put.calls (g : Nat) (A : Option Addr) (n c : Nat) (at_ bit many b : Int) (w0 w : World) (hI : IsRd w0 w g A n c at_ bit many) (hB : Below w0.heap.size w0 w) :
    Calls Tryd.prog 92 #[.pointer (some ⟨g, 2, none⟩), .int .i64 b] w fun e w' => e = .returned (.tuple #[]) ∧ IsRd w0 w' g A n c at_ (put1 bit many b).1 (put1 bit many b).2 ∧ Below w0.heap.size w0 w' ∧ KeepBut w w' g none := by
  have HI0 := aM hI; (have HK := aM (KeepBut.refl w g none)); have HB := aM hB; clear hI hB; by_cases c3 : many > 0; rotate_left
  · (have c3b0 : decide (0 < many) = false := dF c3)
    (have E1 := aM (show put1 bit many b = (b, 1) by unfold put1; rw [if_neg c3])); clear c3; obtain ⟨HGz, hgz⟩ := HI0.out; (have hcz_2 : w.cell? ⟨g, 2, none⟩ = some (.int .i64 bit) := (blk_cell HGz 2).trans rfl); (have hcz_3 : w.cell? ⟨g, 3, none⟩ = some (.int .i64 many) := (blk_cell HGz 3).trans rfl); (have hfz_2 := blk_frozen HGz 2); (have hfz_3 := blk_frozen HGz 3); clear HGz hgz; (go_enter Tryd.func92, Tryd.ntmps92); go_wp2; (first | go_end0 | ((try simp only [Exit.inBlock, Exit.then]); refine bodyPost_ret (results_none rfl _ _ _) rfl ?_)); (exact ⟨by first | rfl | simp, by rw [E1.out]; repeat (first | exact HI0.out | apply IsRd.drewN | apply IsRd.drew | apply IsRd.set_1 | apply IsRd.set_2 | apply IsRd.set_3), by repeat (first | exact HB.out | apply below_alloc | apply pw_below_drewN | apply below_drew1 | refine below_set ?_ HI0.out.2), by repeat (first | exact HK.out | apply KeepBut.set_ | apply keep_drewN | apply keep_drew | apply keep_alloc)⟩)
  (have c3b0 : decide (0 < many) = true := dT c3); by_cases c4 : bit = b; rotate_left
  · (have E1 := aM (show put1 bit many b = (b, 1) by unfold put1; rw [if_pos c3, if_neg c4])); (have c4b0 : (bit == b) = false := beq_eq_false_iff_ne.mpr c4); clear c3; obtain ⟨HGz, hgz⟩ := HI0.out; (have hcz_2 : w.cell? ⟨g, 2, none⟩ = some (.int .i64 bit) := (blk_cell HGz 2).trans rfl); (have hcz_3 : w.cell? ⟨g, 3, none⟩ = some (.int .i64 many) := (blk_cell HGz 3).trans rfl); (have hfz_2 := blk_frozen HGz 2); (have hfz_3 := blk_frozen HGz 3); clear HGz hgz; (go_enter Tryd.func92, Tryd.ntmps92); go_wp2; (first | go_end0 | ((try simp only [Exit.inBlock, Exit.then]); refine bodyPost_ret (results_none rfl _ _ _) rfl ?_)); (exact ⟨by first | rfl | simp, by rw [E1.out]; repeat (first | exact HI0.out | apply IsRd.drewN | apply IsRd.drew | apply IsRd.set_1 | apply IsRd.set_2 | apply IsRd.set_3), by repeat (first | exact HB.out | apply below_alloc | apply pw_below_drewN | apply below_drew1 | refine below_set ?_ HI0.out.2), by repeat (first | exact HK.out | apply KeepBut.set_ | apply keep_drewN | apply keep_drew | apply keep_alloc)⟩)
  (have E1 := aM (show put1 bit many b = (bit, wrap64 (many + 1)) by unfold put1; rw [if_pos c3, if_pos c4])); (have c4b0 : (bit == b) = true := beq_iff_eq.mpr c4); clear c3 c4; obtain ⟨HGz, hgz⟩ := HI0.out; (have hcz_2 : w.cell? ⟨g, 2, none⟩ = some (.int .i64 bit) := (blk_cell HGz 2).trans rfl); (have hcz_3 : w.cell? ⟨g, 3, none⟩ = some (.int .i64 many) := (blk_cell HGz 3).trans rfl); (have hfz_2 := blk_frozen HGz 2); (have hfz_3 := blk_frozen HGz 3); clear HGz hgz; (go_enter Tryd.func92, Tryd.ntmps92); go_wp2; (first | go_end0 | ((try simp only [Exit.inBlock, Exit.then]); refine bodyPost_ret (results_none rfl _ _ _) rfl ?_)); (exact ⟨by first | rfl | simp, by rw [E1.out]; repeat (first | exact HI0.out | apply IsRd.drewN | apply IsRd.drew | apply IsRd.set_1 | apply IsRd.set_2 | apply IsRd.set_3), by repeat (first | exact HB.out | apply below_alloc | apply pw_below_drewN | apply below_drew1 | refine below_set ?_ HI0.out.2), by repeat (first | exact HK.out | apply KeepBut.set_ | apply keep_drewN | apply keep_drew | apply keep_alloc)⟩)
set_option maxHeartbeats 8000000 in
set_option maxRecDepth 100000 in
theorem row80_full.calls (g : Nat) (A : Option Addr) (n c : Nat) (at_ bit many : Int) (w0 w : World) (hI : IsRd w0 w g A n c at_ bit many) :
    Calls Tryd.prog 50 #[.pointer (some ⟨g, 2, none⟩)] w fun e w' => e = .returned (.bool (many == 5)) ∧ Drawn0 w w' := by
  have HI0 := aM hI
  clear hI
  have hcz_3 : w.cell? ⟨g, 3, none⟩ = some (.int .i64 many) := (blk_cell HI0.out.1 3).trans rfl
  go_enter Tryd.func50, Tryd.ntmps50
  go_wp2
  go_ret
  exact ⟨by first | rfl | simp, by repeat (first | exact Drawn0.refl _ | apply Drawn0.step)⟩
end Go.Proofs.YtbanemecfobonaaDoor.B
namespace Go.Proofs.YtbanemecfobonaaDoor.B
open Go.RowKit Go.Proofs.YtbanemecfobonaaDoorW.PrintWords Go.Proofs.YtbanemecfobonaaDoorW.PrintLast Go.Proofs.YtbanemecfobonaaDoorW.PrintMore
set_option linter.unusedVariables false
set_option linter.unusedSimpArgs false
def nextOk (l : List Int) (at_ want : Int) : Bool := !(at_ == l.length || (decide (want ≥ 0) && rd l at_ != want))
set_option maxHeartbeats 8000000 in
set_option maxRecDepth 100000 in
theorem reader_next_no.calls (g : Nat) (A : Option Addr) (c : Nat) (l : List Int) (at_ bit many want : Int) (w0 w : World) (hI : IsRd w0 w g A l.length c at_ bit many) (hB : Below w0.heap.size w0 w) (hr : Kd.C (Kd.int .i64) w A l.length l) (h0 : 0 ≤ at_) (h1 : at_ ≤ l.length) (h : nextOk l at_ want = false) :
    Calls Tryd.prog 47 #[.pointer (some ⟨g, 0, none⟩), .int .i64 want] w fun e w' => e = .returned (.tuple #[.int .i64 0, .bool false]) ∧ Drawn0 w w' := by
  have HI0 := aM hI; have HB := aM hB; have HR := aM hr; clear hI hB hr; by_cases he : at_ = l.length
  · (have e1 : (at_ == (l.length : Int)) = true := beq_iff_eq.2 he); clear h0 h1 h he; obtain ⟨HGz, hgz⟩ := HI0.out; (have hcz_0 : w.cell? ⟨g, 0, none⟩ = some (.slice A l.length c) := (blk_cell HGz 0).trans rfl); (have hcz_1 : w.cell? ⟨g, 1, none⟩ = some (.int .i64 at_) := (blk_cell HGz 1).trans rfl); (have hfz_1 := blk_frozen HGz 1); clear HGz hgz; (go_enter Tryd.func47, Tryd.ntmps47); go_wp2; (repeat (go_quiet (fail); go_wp2)); go_ret2; (exact ⟨by first | rfl | simp, by repeat (first | exact Drawn0.refl _ | apply Drawn0.step)⟩)
  (have hlt : at_ < l.length := by omega); (have e1 : (at_ == (l.length : Int)) = false := beq_eq_false_iff_ne.2 he)
  have hw : (decide (want ≥ 0) && rd l at_ != want) = true := by
    unfold nextOk at h
    rw [e1] at h
    simpa using h
  rw [Bool.and_eq_true] at hw; obtain ⟨hw1, hw2⟩ := hw; (have hw3 : decide (0 ≤ want) = true := hw1); (have hw4 := oD hw3); clear h hw1 he; (obtain ⟨ad, e0, hx⟩ := Kd.at_int HR.out at_ h0 hlt); cases e0; obtain ⟨HGz, hgz⟩ := HI0.out; (have hcz_0 : w.cell? ⟨g, 0, none⟩ = some (.slice (some ad) l.length c) := (blk_cell HGz 0).trans rfl); (have hcz_1 : w.cell? ⟨g, 1, none⟩ = some (.int .i64 at_) := (blk_cell HGz 1).trans rfl); (have hfz_1 := blk_frozen HGz 1); clear HGz hgz; (go_enter Tryd.func47, Tryd.ntmps47); go_wp2; (repeat (go_quiet (fail); go_wp2)); go_ret2; (exact ⟨by first | rfl | simp, by repeat (first | exact Drawn0.refl _ | apply Drawn0.step)⟩)
set_option maxHeartbeats 8000000 in
set_option maxRecDepth 100000 in
theorem reader_next_yes.calls (g : Nat) (A : Option Addr) (c : Nat) (l : List Int) (at_ bit many want : Int) (w0 w : World) (hI : IsRd w0 w g A l.length c at_ bit many) (hB : Below w0.heap.size w0 w) (hr : Kd.C (Kd.int .i64) w A l.length l) (h0 : 0 ≤ at_) (h1 : at_ ≤ l.length) (h : nextOk l at_ want = true) :
    Calls Tryd.prog 47 #[.pointer (some ⟨g, 0, none⟩), .int .i64 want] w fun e w' => e = .returned (.tuple #[.int .i64 (rd l at_), .bool true]) ∧ IsRd w0 w' g A l.length c (at_ + 1) (put1 bit many (rd l at_)).1 (put1 bit many (rd l at_)).2 ∧ Below w0.heap.size w0 w' ∧ KeepBut w w' g none := by
  have HI0 := aM hI; have HB := aM hB; have HR := aM hr; (have HK := aM (KeepBut.refl w g none)); clear hI hB hr
  have e1 : (at_ == (l.length : Int)) = false := by
    unfold nextOk at h
    cases e : (at_ == (l.length : Int))
    · rfl
    · rw [e] at h; simp at h
  (have hlt : at_ < l.length := by have := beq_eq_false_iff_ne.1 e1; omega); (have hll : (l.length : Int) ≤ 9223372036854775807 := by have := HR.out.2.1; omega); (obtain ⟨ad, e0, hx⟩ := Kd.at_int HR.out at_ h0 hlt); cases e0; by_cases hw0 : 0 ≤ want; rotate_left
  · (have hw3 : decide (0 ≤ want) = false := by simpa using hw0); clear h; obtain ⟨HGz, hgz⟩ := HI0.out; (have hcz_0 : w.cell? ⟨g, 0, none⟩ = some (.slice (some ad) l.length c) := (blk_cell HGz 0).trans rfl); (have hcz_1 : w.cell? ⟨g, 1, none⟩ = some (.int .i64 at_) := (blk_cell HGz 1).trans rfl); (have hfz_1 := blk_frozen HGz 1); clear HGz hgz; (go_enter Tryd.func47, Tryd.ntmps47); (go_wp2_with fail); (repeat (go_quiet (fail); go_wp2_with fail)); (refine (row80_put.calls g (some ad) l.length c (at_ + 1) bit many (rd l at_) w0 _ ?s1 ?s2).mono ?_); (case s1 => repeat (first | exact HI0.out | apply IsRd.drewN | apply IsRd.drew | apply IsRd.set_1)); (case s2 => repeat (first | exact HB.out | apply below_alloc | apply pw_below_drewN | apply below_drew1 | refine below_set ?_ HI0.out.2)); (rintro e w2 ⟨rfl, hi, hb, hk⟩); have HI2 := aM hi; have HB2 := aM hb; have HK2 := aM hk; clear hi hb hk; (go_wp2_with fail); go_ret2; (exact ⟨by first | rfl | simp, HI2.out, HB2.out, KeepBut.trans (by repeat (first | exact HK.out | apply KeepBut.set_ | apply keep_drewN | apply keep_drew | apply keep_alloc)) HK2.out (.inl rfl)⟩)
  have hw2 : (rd l at_ != want) = false := by
    unfold nextOk at h
    rw [e1] at h
    simpa [hw0] using h
  clear h; obtain ⟨HGz, hgz⟩ := HI0.out; (have hcz_0 : w.cell? ⟨g, 0, none⟩ = some (.slice (some ad) l.length c) := (blk_cell HGz 0).trans rfl); (have hcz_1 : w.cell? ⟨g, 1, none⟩ = some (.int .i64 at_) := (blk_cell HGz 1).trans rfl); (have hfz_1 := blk_frozen HGz 1); clear HGz hgz; (go_enter Tryd.func47, Tryd.ntmps47); (go_wp2_with fail); (repeat (go_quiet (fail); go_wp2_with fail)); (refine (row80_put.calls g (some ad) l.length c (at_ + 1) bit many (rd l at_) w0 _ ?s1 ?s2).mono ?_); (case s1 => repeat (first | exact HI0.out | apply IsRd.drewN | apply IsRd.drew | apply IsRd.set_1)); (case s2 => repeat (first | exact HB.out | apply below_alloc | apply pw_below_drewN | apply below_drew1 | refine below_set ?_ HI0.out.2)); (rintro e w2 ⟨rfl, hi, hb, hk⟩); have HI2 := aM hi; have HB2 := aM hb; have HK2 := aM hk; clear hi hb hk; (go_wp2_with fail); go_ret2; (exact ⟨by first | rfl | simp, HI2.out, HB2.out, KeepBut.trans (by repeat (first | exact HK.out | apply KeepBut.set_ | apply keep_drewN | apply keep_drew | apply keep_alloc)) HK2.out (.inl rfl)⟩)
end Go.Proofs.YtbanemecfobonaaDoor.B
namespace Go.Proofs.YtbanemecfobonaaDoor.B
open Go.RowKit Go.Proofs.YtbanemecfobonaaDoorW.PrintWords Go.Proofs.YtbanemecfobonaaDoorW.PrintLast Go.Proofs.YtbanemecfobonaaDoorW.PrintMore
set_option linter.unusedVariables false
set_option linter.unusedSimpArgs false
def Seen (w : World) (b n : Nat) (xs : List Int) : Prop :=
  ∃ D : DataW Unit, Maps.IsMap D ∧ w.ownsMap Tryd.prog 3 (plainElem Tryd.prog 4) b n D ∧ ∀ x : Int, (Lit.int .i64 x).wf = true → D.atKey (.int .i64 x) (.lit (.bool false)) = .lit (.bool (xs.contains x))
theorem Seen.made (w : World) : Seen (w.alloc (.map #[] 0)) w.heap.size 0 [] :=
  ⟨.map [], Maps.isMap_empty, World.ownsMap_made w _ _ _, fun x _ => rfl⟩
theorem plainElem_bool {e : TypeId} (he : Tryd.prog.underlying e = some .bool) (x : Bool) : plainElem (H := Unit) Tryd.prog e (.bool x) = some (.lit (.bool x), []) := by
  simp [plainElem, he]
theorem plainElem_bool_inv {e : TypeId} (he : Tryd.prog.underlying e = some .bool) {v : Value} {z : DataW Unit × List MemPlace} (h : plainElem Tryd.prog e v = some z) : ∃ x, v = .bool x ∧ z = (.lit (.bool x), []) := by
  unfold plainElem at h
  rw [he] at h
  cases v <;> simp at h
  exact ⟨_, rfl, h.symm⟩
theorem Seen.alloc {w : World} {b n : Nat} {xs : List Int} (h : Seen w b n xs) (o : Obj) : Seen (w.alloc o) b n xs := by
  obtain ⟨D, h1, h2, h3⟩ := h
  exact ⟨D, h1, h2.alloc o, h3⟩
theorem Seen.below {w w' : World} {b n : Nat} {xs : List Int} (h : Seen w b n xs) (hb : Below w.heap.size w w') : Seen w' b n xs := by
  obtain ⟨D, h1, ⟨es, clock, e1, e2, e3, e4⟩, h3⟩ := h
  exact ⟨D, h1, ⟨es, clock, blk_below e1 hb, e2, e3, e4⟩, h3⟩
theorem Seen.lt {w : World} {b n : Nat} {xs : List Int} (h : Seen w b n xs) : b < w.heap.size := by
  obtain ⟨D, h1, ⟨es, clock, e1, e2, e3, e4⟩, h3⟩ := h
  exact blk_lt e1
theorem wpList_put_seen (w : World) {ops : Array Oper} {rest : List Oper} {o : Oper} {a : Act} {Q : Exit → Act → World → Prop}
    (hg : o.guard = none) (m x v : Operand) (hop : o.op = Op.mapUpdate 87 m x v) (b n : Nat) (xs : List Int) (z : Int) (hz : (Lit.int .i64 z).wf = true)
    (hm : a.eval m = .map (some b)) (hs : Seen w b n xs) (hn : n < maxLen) (hx : a.eval x = .int .i64 z) (hv : a.eval v = .bool true)
    (hK : ∀ w', Seen w' b (n + 1) (z :: xs) → w.grownBy w' (some b) → wpList Tryd.prog ops Q rest (a.put o.dst undef) w') :
    wpList Tryd.prog ops Q (o :: rest) a w := by
  obtain ⟨D, h1, h2, h3⟩ := hs
  refine wpList_mapUpdate_own w hg m x v 87 hop 3 4 (Maps.int_keyed Tryd.underlying3) Tryd.underlying87 (plainElem Tryd.prog 4) b n D hm h2 hn (.int .i64 z) (.bool true) (.int .i64 z) hx hv (Maps.keyOf_int_mk Tryd.underlying3 hz) (.lit (.bool true)) [] (plainElem_bool Tryd.underlying4 true) fun w' h2' hgr => hK w' ⟨_, ?_, h2', fun y hy => ?_⟩ hgr
  · exact Maps.IsMap.put h1 _ _
  · by_cases he : y = z
    · subst he
      rw [Maps.atKey_put_same (k := .int .i64 y) h1 trivial]
      simp
    · rw [Maps.atKey_put_other (by simpa using he), h3 y hy]
      simp [he]
theorem Seen.lookup_run {W : World} {b n : Nat} {xs : List Int} {z : Int} (hz : (Lit.int .i64 z).wf = true) (hs : Seen W b n xs) :
    (Instr.lookup 87 (.map (some b)) (.int .i64 z) false).run Tryd.prog W = .ok (.bool (xs.contains z)) W := by
  obtain ⟨D, h1, h2, h3⟩ := hs
  obtain ⟨v, ps, hrun, hv⟩ := h2.lookup (Maps.int_keyed Tryd.underlying3) Tryd.underlying87 (zd := .lit (.bool false)) (zp := []) (z := .bool false) z9 (plainElem_bool Tryd.underlying4 false) (Maps.keyOf_int_mk Tryd.underlying3 hz)
  obtain ⟨c, rfl, hc⟩ := plainElem_bool_inv Tryd.underlying4 hv
  simp only [Prod.mk.injEq] at hc
  have hcc : c = xs.contains z := by
    have := (h3 z hz).symm.trans hc.1
    simpa using this.symm
  rw [← hcc]
  exact hrun
end Go.Proofs.YtbanemecfobonaaDoor.B
namespace Go.Proofs.YtbanemecfobonaaDoor.B
open Go.RowKit Go.Proofs.YtbanemecfobonaaDoorW.PrintWords Go.Proofs.YtbanemecfobonaaDoorW.PrintLast Go.Proofs.YtbanemecfobonaaDoorW.PrintMore
set_option linter.unusedVariables false
set_option linter.unusedSimpArgs false
def vB (x : S24) : Bool := decide (0 ≤ x.f0) && decide (x.f0 ≤ 2047) && decide (x.f1.length ≤ 8) && !x.f1.any (fun x => decide (x < 0) || decide (255 < x))
def nvB (x : S24) : Bool := !vB x
set_option maxHeartbeats 400000 in
set_option maxRecDepth 100000 in
theorem f58.calls (x : S24) (A : Option Addr) (c : Nat) (w : World) (hr : Kd.C (Kd.int .i64) w A x.f1.length x.f1) (hc : x.f1.length ≤ c) :
    Calls Tryd.prog 58 #[.agg #[.int .i64 x.f0, .slice A x.f1.length c]] w fun e w' => e = .returned (.bool (nvB x)) ∧ Below w.heap.size w w' := by
  have HB := aM (below_alloc (Below.refl w.heap.size w) (.cells #[.int .i64 x.f0, .slice A x.f1.length c] 24))
  have HV := aM (bus_valid.calls x.f0 A c x.f1 (vB x) (w.alloc (.cells #[.int .i64 x.f0, .slice A x.f1.length c] 24)) (Kd.C_below hr (below_alloc (Below.refl _ _) _)) hc rfl)
  have hn : nvB x = !vB x := rfl
  have HN := aM hn
  have hu24 := Tryd.underlying24
  clear hr hn
  generalize vB x = b at HV HN
  go_enter Tryd.func58, Tryd.ntmps58
  go_wp2_with (first | (go_at_call 44; refine HV.out.mono ?_; rintro e w1 ⟨rfl, b1⟩; replace b1 := aM (below_step HB.out b1)))
  go_ret
  exact ⟨by rw [HN.out]; first | rfl | simp, b1.out⟩
set_option maxHeartbeats 1000000 in
set_option maxRecDepth 100000 in
theorem IndexFunc_frame.calls (A0 : Option Addr) (c0 : Nat) (l0 : List S24) (w : World) (hr0 : Kd.C k24 w A0 l0.length l0) (hc0 : l0.length ≤ c0) :
    Calls Tryd.prog 94 #[.slice A0 l0.length c0, .func (.func 58) #[] #[]] w fun e w' => e = .returned (.int .i64 (idxOf nvB l0)) ∧ Below w.heap.size w w' := by
  have HR0 := aM hr0; have HC0 := aM hc0; clear hr0 hc0; (have hlen : (l0.length : Int) ≤ 9223372036854775807 := by have := HR0.out.2.1; omega); have hu24 := Tryd.underlying24; (go_enter Tryd.func94, Tryd.ntmps94); go_wp2; (go_loopg [8] l0.length (fun g v8 w' => ∃ k : Int, v8 = .int .i64 k ∧ 0 ≤ k ∧ k ≤ l0.length ∧ Aside0 (g = l0.length - k.toNat) ∧ Aside0 (∀ j : Nat, j < k.toNat → nvB (l0.getD j z24) = false) ∧ Aside0 (Below w.heap.size w w'))); (case atStart => exact ⟨0, rfl, by omega, by omega, ⟨by simp⟩, ⟨fun j hj => by simp at hj⟩, ⟨Below.refl _ _⟩⟩)
  case round =>
   obtain ⟨k, rfl, hk0, hk, HG, HP, HB⟩ := hrel; by_cases hlt : k < l0.length; rotate_left
   · have hn : idxOf nvB l0 = -1 := by
       haveI : Inhabited S24 := ⟨z24⟩
       exact idxOf_none nvB l0 (fun j hj => HP.out j z3)
     have HN := aM hn; clear hn; (go_wp2_with fail); go_ret; (exact ⟨by rw [HN.out]; first | rfl | simp, HB.out⟩)
   (obtain ⟨ad, A1, c1, e0, hx0, hx1, hc1, hd⟩ := at_T24 HR0.out k hk0 hlt); cases e0; (replace hx0 := kpc HB.out hx0); (replace hx1 := kpc HB.out hx1); (have HV := aM (f58.calls (rd_T24 l0 k) A1 c1 wr (Kd.C_below hd HB.out) hc1)); clear hd hc1; (have HK : nvB (rd_T24 l0 k) = nvB (l0.getD k.toNat z24) := rfl); (cases hpx : nvB (rd_T24 l0 k)); rotate_left
   · rw [hpx] at HV; (have HX := aM (HK.symm.trans hpx)); clear hpx HK; (go_wp2_with (first | (go_at_call 58; refine HV.out.mono ?_; rintro e w' ⟨rfl, b1⟩; replace HB := aM (below_step HB.out b1); clear b1))); go_ret; (have hid : idxOf nvB l0 = k := idxOf_some nvB l0 k hk0 hlt HX.out HP.out); (exact ⟨by simp [hid], HB.out⟩)
   rw [hpx] at HV; (have HX := aM (HK.symm.trans hpx)); clear hpx HK; (go_wp2_with (first | (go_at_call 58; refine HV.out.mono ?_; rintro e w' ⟨rfl, b1⟩; replace HB := aM (below_step HB.out b1); clear b1))); (go_roundg (gk - 1)); (case measure => have := HG.out; omega)
   case rel => exact ⟨k + 1, rfl, by omega, by omega, ⟨by have := HG.out; omega⟩, ⟨fun j hj => by
     rcases Nat.lt_or_ge j k.toNat with h | h
     · exact HP.out j h
     · have : j = k.toNat := by omega
       subst this
       exact HX.out⟩, ⟨HB.out⟩⟩
set_option maxHeartbeats 1000000 in
theorem ContainsFunc_frame.calls (A0 : Option Addr) (c0 : Nat) (l0 : List S24) (w : World) (hr0 : Kd.C k24 w A0 l0.length l0) (hc0 : l0.length ≤ c0) :
    Calls Tryd.prog 57 #[.slice A0 l0.length c0, .func (.func 58) #[] #[]] w fun e w' => e = .returned (.bool (l0.any nvB)) ∧ Below w.heap.size w w' := by
  have HI := aM (IndexFunc_frame.calls A0 c0 l0 w hr0 hc0)
  have HG := aM (idxOf_ge nvB l0)
  clear hr0 hc0
  go_enter Tryd.func57, Tryd.ntmps57
  go_wp2_with (go_at_call 94; refine HI.out.mono ?_; rintro e w' ⟨rfl, b1⟩; replace b1 := aM b1)
  go_ret
  exact ⟨by rw [← HG.out]; first | rfl | simp, b1.out⟩
end Go.Proofs.YtbanemecfobonaaDoor.B
namespace Go.Proofs.YtbanemecfobonaaDoor.B
open Go.RowKit Go.Proofs.YtbanemecfobonaaDoorW.PrintWords Go.Proofs.YtbanemecfobonaaDoorW.PrintLast Go.Proofs.YtbanemecfobonaaDoorW.PrintMore
set_option linter.unusedVariables false
set_option linter.unusedSimpArgs false
def noAt (l : List S24) (i : Nat) : Int := (l.getD i z24).f0
def bestOf (l : List S24) : Nat → Nat
  | 0 => 0
  | k + 1 => if noAt l k < noAt l (bestOf l k) then k else bestOf l k
def nosOf (l : List S24) : Nat → List Int
  | 0 => []
  | k + 1 => noAt l k :: nosOf l k
def dupOf (l : List S24) : Nat → Bool
  | 0 => false
  | k + 1 => dupOf l k || (nosOf l k).contains (noAt l k)
def diffFrom (b won : List Int) : Nat → Nat → Option Nat
  | 0, _ => none
  | n + 1, k => if k < b.length ∧ k < won.length then (if b.getD k 0 = won.getD k 0 then diffFrom b won n (k + 1) else some k) else none
def sentOf (l : List S24) (best : Nat) (won : List Int) : Nat → Option Int
  | 0 => some 0
  | i + 1 => (sentOf l best won i).bind fun s => if i = best then some s else
      (bus_bitsOf.f (l.getD i z24).f0 (l.getD i z24).f1).bind fun b => (diffFrom b won (b.length + 1) 0).bind fun k => some (max s ((k : Int) + 1))
def bus_Wins.f (l : List S24) : Option (Int × Int × Int) :=
  if l.length = 0 then some (0, 0, 2) else if 20 < l.length then some (0, 0, 2) else if l.any nvB then some (0, 0, 2) else if dupOf l l.length then some (0, 0, 2) else
  (bus_bitsOf.f (l.getD (bestOf l l.length) z24).f0 (l.getD (bestOf l l.length) z24).f1).bind fun won =>
    (sentOf l (bestOf l l.length) won l.length).bind fun s => some ((bestOf l l.length : Int), s, 0)
theorem noAt_wf (l : List S24) (h : l.any nvB = false) (i : Nat) (hi : i < l.length) : (Lit.int .i64 (noAt l i)).wf = true := by
  have hv : nvB (l[i]) = false := by
    have := List.any_eq_false.1 h l[i] (List.getElem_mem hi)
    simpa using this
  have e : noAt l i = l[i].f0 := by unfold noAt; rw [List.getD_eq_getElem?_getD, List.getElem?_eq_getElem hi]; rfl
  rw [e]
  simp only [nvB, vB, Bool.not_eq_eq_eq_not, Bool.not_false, Bool.and_eq_true, decide_eq_true_eq] at hv
  have h1 : 0 ≤ l[i].f0 := hv.1.1.1
  have h2 : l[i].f0 ≤ 2047 := hv.1.1.2
  simp only [Lit.wf, Bool.and_eq_true, decide_eq_true_eq]
  exact ⟨by show (-9223372036854775808 : Int) ≤ _; omega, by show _ ≤ (9223372036854775807 : Int); omega⟩
theorem dupOf_mono (l : List S24) (k : Nat) (h : dupOf l k = true) : ∀ n, k ≤ n → dupOf l n = true := by
  intro n hn
  induction n with
  | zero => obtain rfl : k = 0 := by omega
            exact h
  | succ n ih =>
    rcases Nat.lt_or_ge k (n + 1) with h1 | h1
    · unfold dupOf
      rw [ih z3]; rfl
    · obtain rfl : k = n + 1 := by omega
      exact h
theorem sentOf_none (l : List S24) (best : Nat) (won : List Int) (k : Nat) (h : sentOf l best won k = none) : ∀ n, k ≤ n → sentOf l best won n = none := by
  intro n hn
  induction n with
  | zero => obtain rfl : k = 0 := by omega
            exact h
  | succ n ih =>
    rcases Nat.lt_or_ge k (n + 1) with h1 | h1
    · unfold sentOf
      rw [ih z3]; rfl
    · obtain rfl : k = n + 1 := by omega
      exact h
theorem sentOf_le (l : List S24) (best : Nat) (won : List Int) (n : Nat) (s : Int) (h : sentOf l best won n = some s) (k : Nat) (hk : k ≤ n) : ∃ s', sentOf l best won k = some s' := by
  cases h' : sentOf l best won k with
  | none => rw [sentOf_none l best won k h' n hk] at h; cases h
  | some s' => exact ⟨s', rfl⟩
set_option maxHeartbeats 1000000 in
set_option maxRecDepth 100000 in
theorem bus_Wins.calls (A0 : Option Addr) (c0 : Nat) (l0 : List S24) (r1 r2 r3 : Int) (w : World) (hr0 : Kd.C k24 w A0 l0.length l0) (hc0 : l0.length ≤ c0) (h : bus_Wins.f l0 = some (r1, r2, r3)) (ht : TailLaid w) :
    Calls Tryd.prog 22 #[.slice A0 l0.length c0] w fun e w' => e = .returned (.tuple #[.int .i64 r1, .int .i64 r2, .int .i64 r3]) ∧ Below w.heap.size w w' := by
  (have HI := aM (fun W => ContainsFunc_frame.calls A0 c0 l0 W)); have HR0 := aM hr0; have HC0 := aM hc0; have HT := aM ht; (have HB := aM (Below.refl w.heap.size w)); clear hr0 hc0 ht; (have hlen : (l0.length : Int) ≤ 9223372036854775807 := by have := HR0.out.2.1; omega); (unfold bus_Wins.f at h); by_cases h1 : l0.length = 0
  · rw [if_pos h1] at h; simp only [Option.some.injEq, Prod.mk.injEq] at h; obtain ⟨rfl, rfl, rfl⟩ := h; (have t1 : (((l0.length : Int)) == 0) = true := by simp [h1]); clear h1; (go_enter Tryd.func22, Tryd.ntmps22); go_wp2; go_ret3; (exact ⟨rfl, HB.out⟩)
  rw [if_neg h1] at h; (have t1 : (((l0.length : Int)) == 0) = false := by simpa using h1); have HN0 := aM h1; clear h1; by_cases h2 : 20 < l0.length
  · rw [if_pos h2] at h; simp only [Option.some.injEq, Prod.mk.injEq] at h; obtain ⟨rfl, rfl, rfl⟩ := h; (have t2 : decide (20 < l0.length) = true := dT h2); (have t3 : decide (20 < (l0.length : Int)) = true := dT z3); clear h2; (go_enter Tryd.func22, Tryd.ntmps22); go_wp2; go_ret3; (exact ⟨rfl, HB.out⟩)
  rw [if_neg h2] at h; (have t2 : decide (20 < l0.length) = false := dF h2); (have t3 : decide (20 < (l0.length : Int)) = false := dF z3); have HL20 := aM h2; clear h2; by_cases h3 : l0.any nvB = true
  · rw [if_pos h3] at h; simp only [Option.some.injEq, Prod.mk.injEq] at h; obtain ⟨rfl, rfl, rfl⟩ := h; have H3 := aM h3; clear h3; (go_enter Tryd.func22, Tryd.ntmps22); (go_wp2_with (first | (go_at_call 57; refine (HI.out _ (by repeat (first | exact HR0.out | (with_reducible refine Kd.C_drewN ?_ _))) HC0.out).mono ?_; rw [H3.out]; rintro e w1 ⟨rfl, b1⟩; replace HB := aM (below_step (by repeat (first | exact Below.refl _ _ | apply pw_below_drewN)) b1); clear b1))); go_ret3; (exact ⟨rfl, HB.out⟩)
  rw [if_neg h3] at h; (replace h3 : l0.any nvB = false := by simpa using h3); have H3 := aM h3; have HH := aM h; clear h3 h; have hu24 := Tryd.underlying24; (have hmk : ∀ w : World, (Instr.makeMap 87 none).run Tryd.prog w = .ok (.map (some w.heap.size)) (w.alloc (.map #[] 0)) := fun w => by kernel_rfl); (go_enter Tryd.func22, Tryd.ntmps22); (go_wp2_with (first | (go_at_call 57; refine (HI.out _ (by repeat (first | exact HR0.out | (with_reducible refine Kd.C_drewN ?_ _))) HC0.out).mono ?_; rw [H3.out]; rintro e w1 ⟨rfl, b1⟩; replace HB := aM (below_step (by repeat (first | exact Below.refl _ _ | apply pw_below_drewN)) b1); clear b1))); (have HS0 := aM (Seen.made w1)); have HBM := aM HB.out.size; (replace HB := aM (below_alloc HB.out (.map #[] 0))); (go_loopg [5, 30] l0.length (fun g v5 v30 w' => ∃ b k : Int, v5 = .int .i64 b ∧ v30 = .int .i64 k ∧ 0 ≤ k ∧ k ≤ l0.length ∧ 0 ≤ b ∧ b < l0.length ∧ Aside0 (b = (bestOf l0 k.toNat : Int)) ∧ Aside0 (g = l0.length - k.toNat) ∧ Aside0 (Seen w' w1.heap.size k.toNat (nosOf l0 k.toNat)) ∧ Aside0 (dupOf l0 k.toNat = false) ∧ Aside0 (Below w.heap.size w w'))); (case atStart => exact ⟨0, 0, rfl, rfl, by omega, by omega, by omega, by have := HN0.out; omega, ⟨rfl⟩, ⟨by simp⟩, ⟨HS0.out⟩, ⟨rfl⟩, ⟨HB.out⟩⟩)
  case round =>
   clear HB HS0; obtain ⟨b, k, rfl, rfl, hk0, hk, hb0, hb, HBE, HG, HS, HD, HB⟩ := hrel; (obtain ⟨adb, Ab, cb, e0, hy0, hy1, hcb, hdb⟩ := at_T24 HR0.out b hb0 hb); cases e0; by_cases hlt : k < l0.length
   · (obtain ⟨ad, A1, c1, e0, hx0, hx1, hc1, hd⟩ := at_T24 HR0.out k hk0 hlt); cases e0; clear hy1 hcb hdb hd hc1; (replace hx0 := kpc HB.out hx0); (replace hx1 := kpc HB.out hx1); (have HNO : Aside0 ((rd_T24 l0 k).f0 = noAt l0 k.toNat) := ⟨rfl⟩); (have HNB : Aside0 ((rd_T24 l0 b).f0 = noAt l0 b.toNat) := ⟨rfl⟩); (have HWF : Aside0 ((Lit.int .i64 (rd_T24 l0 k).f0).wf = true) := ⟨noAt_wf l0 H3.out k.toNat z3⟩); (generalize (rd_T24 l0 k).f0 = no at HNO HWF hx0); (generalize (rd_T24 l0 k).f1.length = n1 at hx1); (generalize (rd_T24 l0 b).f0 = nb at HNB hy0); (have HS1 : Aside0 (Seen (wr.alloc (.cells #[.int .i64 no, .slice A1 n1 c1] 24)) w1.heap.size k.toNat (nosOf l0 k.toNat)) := ⟨HS.out.alloc _⟩); (have HB1 : Aside0 (Below w.heap.size w (wr.alloc (.cells #[.int .i64 no, .slice A1 n1 c1] 24))) := ⟨below_alloc HB.out _⟩); (have hlk := Seen.lookup_run HWF.out HS1.out); (cases hdu : (nosOf l0 k.toNat).contains no); rotate_left
     · rw [hdu] at hlk; have HDU := aM hdu; clear hdu hy0; go_wp2; go_ret3; (have hd1 : dupOf l0 (k.toNat + 1) = true := by unfold dupOf; rw [← HNO.out, HDU.out]; simp); (have hd2 := dupOf_mono l0 _ hd1 l0.length z3); have h := HH.out; rw [if_pos hd2] at h; simp only [Option.some.injEq, Prod.mk.injEq] at h; obtain ⟨rfl, rfl, rfl⟩ := h; (exact ⟨rfl, HB1.out⟩)
     rw [hdu] at hlk; have HDU := aM hdu; have HY0 := aM hy0; clear hdu hy0; (go_wp2_with (first | (at_mapUpdate; refine wpList_put_seen _ rfl _ _ _ rfl w1.heap.size k.toNat (nosOf l0 k.toNat) no HWF.out rfl HS1.out (by have := HL20.out; unfold maxLen; omega) rfl rfl ?_))); (intro w2 hs2 hg2)
     have hz0 : w2.cell? ⟨wr.heap.size, 0, none⟩ = some (.int .i64 no) := by
       have e1 := hg2.block wr.heap.size (by rw [World.size_alloc]; omega) (by have := HS.out.lt; intro e; have e2 := sI e; omega)
       have e2 : w2.heap[wr.heap.size]? = some (.cells #[.int .i64 no, .slice A1 n1 c1] 24 (0, 0)) := e1.trans (blk_new _ _)
       exact (blk_cell e2 0).trans rfl
     (have HB2 : Aside0 (Below w.heap.size w w2) := ⟨HB1.out.grown hg2 HB1.out.size (fun k hk => by have e2 := sI hk; have := HBM.out; omega)⟩); (have hy0 : w2.cell? (adb.add (b.toNat * 2)) = some (.int .i64 nb) := (HB2.out.cell (World.block_lt_of_cell? w _ HY0.out)).trans HY0.out); have HS2 := aM hs2; clear hs2 hg2 hlk hx0 hx1 HY0 HB1 HS1; go_wp2; by_cases hcm : no < nb
     · (have t4 : decide (no < nb) = true := dT hcm); have HCM := aM hcm; clear hcm; (go_quiet (fail)); go_wp2; (go_roundg (gk - 1)); (case measure => have := HG.out; omega)
       case rel => exact ⟨k, k + 1, rfl, rfl, by omega, by omega, by omega, by omega, ⟨by
           have e : (k + 1).toNat = k.toNat + 1 := by omega
           have hbn : b.toNat = bestOf l0 k.toNat := by have := HBE.out; omega
           rw [e]; unfold bestOf; rw [← hbn, ← HNO.out, ← HNB.out, if_pos HCM.out]; omega⟩, ⟨by have := HG.out; omega⟩, ⟨by
           have e : (k + 1).toNat = k.toNat + 1 := by omega
           rw [e]; unfold nosOf; rw [← HNO.out]; exact HS2.out.below (by repeat (first | exact Below.refl _ _ | apply pw_below_drewN | apply below_drew1))⟩, ⟨by
           have e : (k + 1).toNat = k.toNat + 1 := by omega
           rw [e]; unfold dupOf; rw [HD.out, ← HNO.out, HDU.out]; rfl⟩, ⟨by repeat (first | exact HB2.out | apply pw_below_drewN | apply below_drew1)⟩⟩
     (have t4 : decide (no < nb) = false := dF hcm); have HCM := aM hcm; clear hcm; (go_quiet (fail)); go_wp2; (go_roundg (gk - 1)); (case measure => have := HG.out; omega)
     case rel => exact ⟨b, k + 1, rfl, rfl, by omega, by omega, by omega, by omega, ⟨by
         have e : (k + 1).toNat = k.toNat + 1 := by omega
         have hbn : b.toNat = bestOf l0 k.toNat := by have := HBE.out; omega
         rw [e]; unfold bestOf; rw [← hbn, ← HNO.out, ← HNB.out, if_neg (by have := HCM.out; omega)]; omega⟩, ⟨by have := HG.out; omega⟩, ⟨by
         have e : (k + 1).toNat = k.toNat + 1 := by omega
         rw [e]; unfold nosOf; rw [← HNO.out]; exact HS2.out.below (by repeat (first | exact Below.refl _ _ | apply pw_below_drewN | apply below_drew1))⟩, ⟨by
         have e : (k + 1).toNat = k.toNat + 1 := by omega
         rw [e]; unfold dupOf; rw [HD.out, ← HNO.out, HDU.out]; rfl⟩, ⟨by repeat (first | exact HB2.out | apply pw_below_drewN | apply below_drew1)⟩⟩
   (obtain rfl : k = l0.length := by omega); (have hkk : ((l0.length : Int)).toNat = l0.length := by omega); (have hdf : dupOf l0 l0.length = false := hkk ▸ HD.out); (have hbe : b.toNat = bestOf l0 l0.length := by have := HBE.out; rw [hkk] at this; omega); have h := HH.out; rw [hdf, ← hbe] at h; simp only [Bool.false_eq_true, if_false] at h; (obtain ⟨won, hwon, h⟩ := oB h); (obtain ⟨sN, hsN, h⟩ := oB h); simp only [Option.some.injEq, Prod.mk.injEq] at h; obtain ⟨hr1, rfl, rfl⟩ := h; (obtain rfl : b = r1 := by omega); have HSN := aM hsN; clear HS HD HBE HH hsN hdf hbe hr1 HBM HG H3; (replace hy0 := kpc HB.out hy0); (replace hy1 := kpc HB.out hy1); (have HV := aM (bus_bitsOf.calls (rd_T24 l0 b).f0 Ab cb (rd_T24 l0 b).f1 won wr (Kd.C_below hdb HB.out) hcb hwon (TailLaid.below HT.out HB.out))); clear hdb hcb hwon; (go_wp2_with (first | (go_at_call 45; refine HV.out.mono ?_; rintro e w3 ⟨v, rfl, hv, b3⟩; obtain ⟨Aw, cw, rfl, hcw, hrw⟩ := Kd.R_reads hv; clear hv; have HW := aM hrw; have HCW := aM hcw; have HB3 := aM (below_step HB.out b3); clear b3 hrw hcw HV hy0 hy1 HB))); (go_loopg [10, 59] l0.length (fun g v10 v59 w' => ∃ s i : Int, v10 = .int .i64 s ∧ v59 = .int .i64 i ∧ 0 ≤ i ∧ i ≤ l0.length ∧ Aside0 (g = l0.length - i.toNat) ∧ Aside0 (sentOf l0 b.toNat won i.toNat = some s) ∧ Aside0 (Below w.heap.size w w') ∧ Aside0 (Below w3.heap.size w3 w'))); (case atStart => exact ⟨0, 0, rfl, rfl, by omega, by omega, ⟨by simp⟩, ⟨rfl⟩, ⟨HB3.out⟩, ⟨Below.refl _ _⟩⟩)
   case round =>
    clear HB3; obtain ⟨s, i, rfl, rfl, hi0, hi, HG, HSI, HB, HB3⟩ := hrel; by_cases hlt2 : i < l0.length; rotate_left
    · (obtain rfl : i = l0.length := by omega); have h := HSI.out; rw [hkk, HSN.out] at h; (obtain rfl : sN = s := sI h); clear h; go_wp2; go_ret3; (exact ⟨rfl, HB.out⟩)
    (obtain ⟨ad, A1, c1, e0, hx0, hx1, hc1, hd⟩ := at_T24 HR0.out i hi0 hlt2); cases e0; (replace hx0 := kpc HB.out hx0); (replace hx1 := kpc HB.out hx1); by_cases hib : i = b
    · (have t5 : (i == b) = true := by simp [hib]); have HIB := aM hib; clear hib hd hc1; go_wp2; (go_roundg (gk - 1)); (case measure => have := HG.out; omega)
      case rel => exact ⟨s, i + 1, rfl, rfl, by omega, by omega, ⟨by have := HG.out; omega⟩, ⟨by
        have e : (i + 1).toNat = i.toNat + 1 := by omega
        rw [e]; unfold sentOf; rw [HSI.out]; simp only [Option.bind_some]; rw [if_pos (by have := HIB.out; omega)]⟩, ⟨below_alloc HB.out _⟩, ⟨below_alloc HB3.out _⟩⟩
    (have t5 : (i == b) = false := by simp [hib]); have HIB := aM hib; (have hsn := sentOf_le l0 b.toNat won l0.length sN HSN.out (i.toNat + 1) z3); obtain ⟨s', hs'⟩ := hsn; have hs2 := hs'; (unfold sentOf at hs2); rw [HSI.out] at hs2; (simp only [Option.bind_some, if_neg (show ¬ i.toNat = b.toNat by omega)] at hs2); (obtain ⟨bl, hbl, hs2⟩ := oB hs2); (obtain ⟨kd, hkd, hs2⟩ := oB hs2); simp only [Option.some.injEq] at hs2; have HS' := aM hs'; have HKD := aM hkd; have HS2 := aM hs2; clear hib hs' hkd hs2; (have HV := aM (bus_bitsOf.calls (rd_T24 l0 i).f0 A1 c1 (rd_T24 l0 i).f1 bl (wr.alloc (.cells #[.int .i64 (rd_T24 l0 i).f0, .slice A1 (rd_T24 l0 i).f1.length c1] 24)) (Kd.C_below hd (below_alloc HB.out _)) hc1 hbl (TailLaid.below HT.out (below_alloc HB.out _)))); clear hd hc1 hbl; (go_wp2_with (first | (go_at_call 45; refine HV.out.mono ?_; rintro e w5 ⟨v, rfl, hv, b5⟩; obtain ⟨Al, cl, rfl, hcl, hrl⟩ := Kd.R_reads hv; clear hv; have HL := aM hrl; have HCL := aM hcl; have HB5 := aM (below_step (below_alloc HB.out _) b5); have HB35 := aM (below_step (below_alloc HB3.out _) b5); clear b5 hrl hcl HV hx0 hx1 HB HB3))); (go_loopg [13] (bl.length + 1) (fun g v13 w' => ∃ k : Int, v13 = .int .i64 k ∧ 0 ≤ k ∧ k ≤ bl.length ∧ Aside0 (diffFrom bl won g k.toNat = some kd) ∧ Drawn0 w5 w')); (case atStart => exact ⟨0, rfl, by omega, by omega, ⟨HKD.out⟩, by repeat (first | exact Drawn0.refl _ | apply Drawn0.step)⟩)
    case round =>
     obtain ⟨k, rfl, hk0, hkb, HDF, ⟨m1, rfl⟩⟩ := hrel; have hdf := HDF.out
     cases hgi : gk with
     | zero => rw [hgi] at hdf; simp [diffFrom] at hdf
     | succ n =>
      rw [hgi] at hdf; (unfold diffFrom at hdf); have HGI := aM hgi; clear hgi HDF; by_cases hin : k.toNat < bl.length ∧ k.toNat < won.length; rotate_left
      · rw [if_neg hin] at hdf; cases hdf
      rw [if_pos hin] at hdf; (obtain ⟨adl, el, hxl⟩ := Kd.at_int HL.out k hk0 z3); cases el; (obtain ⟨adw, ew, hxw⟩ := Kd.at_int (Kd.C_below HW.out HB35.out) k hk0 z3); cases ew; (have hkl : k < bl.length := by omega); (have hkw : k < won.length := by omega); (replace hdf : (if rd bl k = rd won k then diffFrom bl won n (k.toNat + 1) else some k.toNat) = some kd := hdf); have HDF := aM hdf; (have HBL := aM (HL.out.2.1)); (have hbl64 : (bl.length : Int) ≤ 9223372036854775807 := by have := HBL.out; omega); clear hdf hin HBL; (generalize rd bl k = x at HDF hxl); (generalize rd won k = y at HDF hxw); by_cases hxy : x = y
      · (have t6 : (x == y) = true := by simp [hxy]); have hd2 := HDF.out; rw [if_pos hxy] at hd2; have HD2 := aM hd2; clear hd2 hxy HDF; go_wp2; (go_quiet (fail)); go_wp2; (go_roundg n); (case measure => have := HGI.out; omega)
        case rel => exact ⟨k + 1, rfl, by omega, by omega, ⟨by
          have e : (k + 1).toNat = k.toNat + 1 := by omega
          rw [e]; exact HD2.out⟩, by repeat (first | exact Drawn0.refl _ | apply Drawn0.step)⟩
      (have t6 : (x == y) = false := by simp [hxy]); have hd2 := HDF.out; rw [if_neg hxy] at hd2; (have HD2 := aM (sI hd2)); clear hd2 hxy HDF; go_wp2; (go_quiet (fail)); go_wp2
      case inr =>
       (go_roundg (l0.length - (i + 1).toNat)); (case measure => have := HG.out; omega)
       case rel => exact ⟨s, i + 1, rfl, rfl, by omega, by omega, ⟨rfl⟩, ⟨by
         have e : (i + 1).toNat = i.toNat + 1 := by omega
         have e2 : s' = s := by have h2 := HS2.out; have h3 := HD2.out; omega
         rw [e, HS'.out, e2]⟩, ⟨by repeat (first | exact HB5.out | apply pw_below_drewN | apply below_drew1)⟩, ⟨by repeat (first | exact HB35.out | apply pw_below_drewN | apply below_drew1)⟩⟩
      case inl =>
       (go_roundg (l0.length - (i + 1).toNat)); (case measure => have := HG.out; omega)
       case rel => exact ⟨(k + 1), i + 1, rfl, rfl, by omega, by omega, ⟨rfl⟩, ⟨by
         have e : (i + 1).toNat = i.toNat + 1 := by omega
         have e2 : s' = (k + 1) := by have h2 := HS2.out; have h3 := HD2.out; omega
         rw [e, HS'.out, e2]⟩, ⟨by repeat (first | exact HB5.out | apply pw_below_drewN | apply below_drew1)⟩, ⟨by repeat (first | exact HB35.out | apply pw_below_drewN | apply below_drew1)⟩⟩
end Go.Proofs.YtbanemecfobonaaDoor.B
