/- subsets and Hidden, by hand. -/
import Derived.Test.YtfbibheeogcacaaDoorXC4
namespace Go.Proofs.YtfbibheeogcacaaDoor.B
open Go.RowKit Go.Proofs.YtfbibheeogcacaaDoorW.PrintWords Go.Proofs.YtfbibheeogcacaaDoorW.PrintLast Go.Proofs.YtfbibheeogcacaaDoorW.PrintMore
set_option linter.unusedVariables false
set_option linter.unusedSimpArgs false

/-- A visit's answer, and what it leaves. -/
def VisR (b : Bool) (RY : World → World → Prop) (w w' : World) : Prop := ∃ W, Below w.heap.size w W ∧ (b = false → Below W.heap.size W w') ∧ (b = true → RY W w')
theorem size_alloc1 (w : World) (o : Obj) : (w.alloc o).heap.size = w.heap.size + 1 := Array.size_push _
theorem env4 (w : World) (n many : Int) (e1 e2 e3 : Value) : ∃ W, W = ((((w.alloc (.cells #[.int .i64 n] 3)).alloc (.cells #[.int .i64 many] 3)).alloc (.cells #[.func (.func 13) #[] #[e1, e2, e3]] 42)).alloc (.cells #[.func (.func 27) #[] #[.pointer (some ⟨w.heap.size + 1, 0, none⟩), .pointer (some ⟨w.heap.size + 1 + 1, 0, none⟩), .pointer (some ⟨w.heap.size, 0, none⟩), .pointer (some ⟨w.heap.size + 1 + 1 + 1, 0, none⟩)]] 38)) ∧
    OnEnv W (w.heap.size + 1) (w.heap.size + 1 + 1) w.heap.size (w.heap.size + 1 + 1 + 1) many n e1 e2 e3 ∧ Below w.heap.size w W := by
  have h0 := blk_new w (.cells #[.int .i64 n] 3)
  have h1 := blk_new (w.alloc (.cells #[.int .i64 n] 3)) (.cells #[.int .i64 many] 3)
  have h2 := blk_new ((w.alloc (.cells #[.int .i64 n] 3)).alloc (.cells #[.int .i64 many] 3)) (.cells #[.func (.func 13) #[] #[e1, e2, e3]] 42)
  have h3 := blk_new (((w.alloc (.cells #[.int .i64 n] 3)).alloc (.cells #[.int .i64 many] 3)).alloc (.cells #[.func (.func 13) #[] #[e1, e2, e3]] 42)) (.cells #[.func (.func 27) #[] #[.pointer (some ⟨w.heap.size + 1, 0, none⟩), .pointer (some ⟨w.heap.size + 1 + 1, 0, none⟩), .pointer (some ⟨w.heap.size, 0, none⟩), .pointer (some ⟨w.heap.size + 1 + 1 + 1, 0, none⟩)]] 38)
  rw [size_alloc1] at h1
  rw [size_alloc1, size_alloc1] at h2
  rw [size_alloc1, size_alloc1, size_alloc1] at h3
  exact ⟨_, rfl, ⟨(blk_cell (blk_alloc (blk_alloc h1 _) _) 0).trans rfl, (blk_cell (blk_alloc h2 _) 0).trans rfl, (blk_cell (blk_alloc (blk_alloc (blk_alloc h0 _) _) _) 0).trans rfl, (blk_cell h3 0).trans rfl⟩, by repeat (first | exact Below.refl _ _ | apply below_alloc)⟩
set_option maxHeartbeats 800000 in
set_option maxRecDepth 100000 in
theorem subsets_zero (n : Int) (e1 e2 e3 : Value) (b : Bool) (RY : World → World → Prop) (w : World)
    (hV : ∀ W, Below w.heap.size w W → Calls Tryd.prog 13 #[.slice none 0 0, e1, e2, e3] W fun e w' => e = .returned (.bool b) ∧ (b = false → Below W.heap.size W w') ∧ (b = true → RY W w')) :
    Calls Tryd.prog 12 #[.int .i64 n, .int .i64 0, .func (.func 13) #[] #[e1, e2, e3]] w fun e w' => e = .returned (.bool b) ∧ VisR b RY w w' := by
  obtain ⟨W, hW, hE, hB⟩ := env4 w n 0 e1 e2 e3
  have HC : Aside0 (Calls Tryd.prog 27 #[.slice none 0 0, .int .i64 0, .pointer (some ⟨w.heap.size + 1, 0, none⟩), .pointer (some ⟨w.heap.size + 1 + 1, 0, none⟩), .pointer (some ⟨w.heap.size, 0, none⟩), .pointer (some ⟨w.heap.size + 1 + 1 + 1, 0, none⟩)] W fun e w' => e = .returned (.bool b) ∧ VisR b RY w w') :=
    ⟨(on_at [] none 0 0 n _ _ _ _ e1 e2 e3 b _ W hE (hV W hB)).mono fun e w' ⟨h1, h2, h3⟩ => ⟨h1, W, hB, h2, h3⟩⟩
  have ho := hE.o
  have HW := Aside0.mk hW
  clear hV hE hB hW
  go_enter Tryd.func12, Tryd.ntmps12
  go_upto_region 3 with (fail)
  rw [← HW.out]
  clear HW
  go_wp2_with (first | (go_at_call 27; refine HC.out.mono ?_; rintro e w1 ⟨rfl, r1⟩; replace r1 := Aside0.mk r1))
  go_ret
  exact ⟨rfl, r1.out⟩
set_option maxHeartbeats 800000 in
set_option maxRecDepth 100000 in
theorem subsets_one (n : Nat) (e1 e2 e3 : Value) (h : Nat → Bool) (RY : World → Nat → World → Prop) (w : World) (hn : n ≤ 1000)
    (hV : ∀ (t : Nat) (A : Option Addr) (c : Nat) (W : World), t < n → Below w.heap.size w W → Kd.C (Kd.int .i64) W A 1 [(t : Int)] → 1 ≤ c → Calls Tryd.prog 13 #[.slice A 1 c, e1, e2, e3] W fun e w' => e = .returned (.bool (h t)) ∧ (h t = false → Below W.heap.size W w') ∧ (h t = true → RY W t w')) :
    Calls Tryd.prog 12 #[.int .i64 (n : Int), .int .i64 1, .func (.func 13) #[] #[e1, e2, e3]] w fun e w' => (idxB h n 0 = -1 ∧ e = .returned (.bool false) ∧ Below w.heap.size w w') ∨ (∃ t : Nat, idxB h n 0 = (t : Int) ∧ t < n ∧ h t = true ∧ e = .returned (.bool true) ∧ VisR true (fun W w' => RY W t w') w w') := by
  obtain ⟨W, hW, hE, hB⟩ := env4 w (n : Int) 1 e1 e2 e3
  have HC : Aside0 (Calls Tryd.prog 27 #[.slice none 0 0, .int .i64 0, .pointer (some ⟨w.heap.size + 1, 0, none⟩), .pointer (some ⟨w.heap.size + 1 + 1, 0, none⟩), .pointer (some ⟨w.heap.size, 0, none⟩), .pointer (some ⟨w.heap.size + 1 + 1 + 1, 0, none⟩)] W fun e w' => (idxB h n 0 = -1 ∧ e = .returned (.bool false) ∧ Below w.heap.size w w') ∨ (∃ t : Nat, idxB h n 0 = (t : Int) ∧ t < n ∧ h t = true ∧ e = .returned (.bool true) ∧ VisR true (fun W w' => RY W t w') w w')) :=
    ⟨(on_one n 0 _ _ _ _ e1 e2 e3 h RY W hn hE (fun t A c W2 ht hb => hV t A c W2 ht (below_step hB hb))).mono fun e w' hh => by
      rcases hh with ⟨h1, h2, h3⟩ | ⟨t, W2, h1, h2, h3, h4, h5, h6⟩
      · exact .inl ⟨h1, h2, below_step hB h3⟩
      · exact .inr ⟨t, h1, h2, h3, h4, W2, below_step hB h5, (fun x => by cases x), fun _ => h6⟩⟩
  have ho := hE.o
  have HW := Aside0.mk hW
  clear hV hE hB hW
  generalize hP : (fun (e : Ending) (w' : World) => (idxB h n 0 = -1 ∧ e = .returned (.bool false) ∧ Below w.heap.size w w') ∨ (∃ t : Nat, idxB h n 0 = (t : Int) ∧ t < n ∧ h t = true ∧ e = .returned (.bool true) ∧ VisR true (fun W w' => RY W t w') w w')) = P at HC ⊢
  have hret : ∀ e w', P e w' → ∃ b : Bool, e = .returned (.bool b) := by
    rw [← hP]
    intro e w' hh
    rcases hh with ⟨_, h2, _⟩ | ⟨t, _, _, _, h4, _⟩
    · exact ⟨_, h2⟩
    · exact ⟨_, h4⟩
  have HRT := Aside0.mk hret
  clear hP hret
  go_enter Tryd.func12, Tryd.ntmps12
  go_upto_region 3 with (fail)
  rw [← HW.out]
  clear HW
  go_wp2_with (first | (go_at_call 27; refine HC.out.mono ?_; rintro e w1 hp; obtain ⟨b, rfl⟩ := HRT.out e w1 hp; replace hp := Aside0.mk hp))
  exact hp.out
end Go.Proofs.YtfbibheeogcacaaDoor.B
