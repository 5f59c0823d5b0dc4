/- Written by a program (lite.py, squash.py) from my texts. -/
import Derived.Test.YtbanemecfobonaaDoorXM4w
import Derived.Shelf.Small.Bits
import Derived.Test.YtbanemecfobonaaDoorProg
import Derived.Test.YtbanemecfobonaaDoorBC2w
section
namespace Go.Proofs.YtbanemecfobonaaDoor.B
open Go.RowKit Go.Proofs.YtbanemecfobonaaDoorW.PrintWords Go.Proofs.YtbanemecfobonaaDoorW.PrintLast Go.Proofs.YtbanemecfobonaaDoorW.PrintMore
set_option linter.unusedVariables false
set_option linter.unusedSimpArgs false
def Row32 (w : World) (g : Nat) (L : List Int) : Prop := ∃ cs, w.heap[g]? = some (.cells cs 149 (0, 0)) ∧ ∀ i, i < L.length → cs[i]? = some (.int .u32 (rd L (i : Int)))
theorem Row32.cell {w : World} {g : Nat} {L : List Int} (h : Row32 w g L) (i : Nat) (hi : i < L.length) : w.cell? ⟨g, i, none⟩ = some (.int .u32 (rd L (i : Int))) := by
  obtain ⟨cs, h1, h2⟩ := h
  exact (blk_cell h1 i).trans (h2 i hi)
theorem Row32.free {w : World} {g : Nat} {L : List Int} (h : Row32 w g L) (i : Nat) : w.frozen? ⟨g, i, none⟩ = false := by
  obtain ⟨cs, h1, h2⟩ := h
  exact blk_frozen h1 i
theorem Row32.lt {w : World} {g : Nat} {L : List Int} (h : Row32 w g L) : g < w.heap.size := by
  obtain ⟨cs, h1, h2⟩ := h
  exact blk_lt h1
theorem rd_put (L : List Int) (i : Nat) (v : Int) (k : Nat) (hk : k < L.length) : rd (L.set i v) (k : Int) = if k = i then v else rd L (k : Int) := by
  show (L.set i v).getD k 0 = if k = i then v else L.getD k 0
  rw [List.getD_eq_getElem?_getD, List.getElem?_set]
  by_cases h : i = k
  · subst h; rw [if_pos rfl, if_pos rfl, if_pos hk]; rfl
  · rw [if_neg h, if_neg (fun e => h e.symm), List.getD_eq_getElem?_getD]
theorem Row32.put {w : World} {g : Nat} {L : List Int} (h : Row32 w g L) (i : Nat) (v : Int) : Row32 (w.setCell ⟨g, i, none⟩ (.int .u32 v)) g (L.set i v) := by
  obtain ⟨cs, h1, h2⟩ := h
  refine ⟨_, blk_set h1 i _, fun k hk => ?_⟩
  rw [List.length_set] at hk
  rw [rd_put _ _ _ _ hk, Array.getElem?_setIfInBounds]
  have h3 := h2 k hk
  by_cases e : i = k
  · subst e
    rw [if_pos rfl, if_pos rfl]
    rw [if_pos (Array.getElem?_eq_some_iff.1 h3).1]
  · rw [if_neg e, if_neg (fun x => e x.symm)]; exact h3
theorem Row32.below {w w' : World} {g : Nat} {L : List Int} (h : Row32 w g L) (hb : Below w.heap.size w w') : Row32 w' g L := by
  obtain ⟨cs, h1, h2⟩ := h
  exact ⟨cs, blk_below h1 hb, h2⟩
theorem Row32.only {w w' : World} {g g' : Nat} {L : List Int} (h : Row32 w g L) (ho : Only w w' g') (hne : g ≠ g') : Row32 w' g L := by
  obtain ⟨cs, h1, h2⟩ := h
  exact ⟨cs, KeepBut.blk ho.2 h1 hne (by simp), h2⟩
theorem Row32.of_R {w : World} {base : Nat} {ok : Nat → Prop} {v : Value} {l : List Int} (h : Kd.R (Kd.int .u32) 149 w base ok v l) (hp : 0 < l.length) : ∃ g c, v = .slice (some ⟨g, 0, none⟩) l.length c ∧ l.length ≤ c ∧ base ≤ g ∧ Row32 w g l := by
  obtain ⟨g, cap, rfl, hb, hl, cs, hc⟩ := Kd.R_form h hp
  obtain ⟨_, hle, _⟩ := Kd.R_reads' h
  refine ⟨g, cap, rfl, hle, hb, cs, hc, fun i hi => ?_⟩
  have := (Kd.R_celln 0 h (i : Int) z3 z3).1
  rw [Int.toNat_natCast] at this
  exact (blk_cell hc i).symm.trans this
theorem Row32.wa {w : World} {g c : Nat} {L : List Int} (h : Row32 w g L) (hl : L.length ≤ 1000000) (m : Nat) (hm : m ≤ L.length) (hc : m ≤ c) : WA w (some ⟨g, 0, none⟩) c (L.take m) := by
  have hm2 : (L.take m).length = m := by rw [List.length_take]; omega
  refine ⟨Kd.C_of_reads (d := (0 : Int)) ⟨by omega, by omega, fun hn => ⟨_, rfl, fun i hi => ?_⟩⟩, by omega, fun ad he => ?_⟩
  · have h1 := h.cell i z3
    have e : ((⟨g, 0, none⟩ : Addr).add i) = ⟨g, i, none⟩ := by simp [Addr.add]; omega
    rw [e, h1]
    have e2 : (L.take m).getD i 0 = rd L (i : Int) := by
      show _ = L.getD i 0
      rw [List.getD_eq_getElem?_getD, List.getElem?_take, if_pos z3, List.getD_eq_getElem?_getD]
    rw [e2]
  · obtain ⟨cs, h1, h2⟩ := h
    cases he
    exact ⟨cs, h1⟩
def Aside32 (w : World) (g : Nat) (A : Option Addr) (c : Nat) (l : List Int) : Prop := Kd.C (Kd.int .u32) w A l.length l ∧ l.length ≤ c ∧ ∀ ad, A = some ad → 0 < l.length → ad.block ≠ g
theorem Aside32.only {w w' : World} {g : Nat} {A : Option Addr} {c : Nat} {l : List Int} (h : Aside32 w g A c l) (ho : Only w w' g) : Aside32 w' g A c l :=
  ⟨Kd.C_foot_ne (fun h => h) h.1 (fun ad he hn => h.2.2 ad he hn) _ ho.2, h.2.1, h.2.2⟩
def takeC (q : Int) (d : List Int) (i : Nat) (c : Int) : Int := if i < d.length then IntKind.u64.wrap (c + IntKind.u64.wrap (q * IntKind.u64.wrap (rd d (i : Int)))) else c
def takeV (x b c : Int) : Int := IntKind.u64.wrap (IntKind.u64.wrap (IntKind.u64.wrap x - Go.bits .and .u64 c 4294967295) - b)
def takeTo (L : List Int) (j : Nat) (d : List Int) (q : Int) : Nat → Int × Int × List Int
  | 0 => (0, 0, L)
  | i + 1 =>
    (takeV (rd (takeTo L j d q i).2.2 ((j + i : Nat) : Int)) (takeTo L j d q i).1 (takeC q d i (takeTo L j d q i).2.1) / 9223372036854775808,
     takeC q d i (takeTo L j d q i).2.1 / 4294967296,
     (takeTo L j d q i).2.2.set (j + i) (takeV (rd (takeTo L j d q i).2.2 ((j + i : Nat) : Int)) (takeTo L j d q i).1 (takeC q d i (takeTo L j d q i).2.1) % 4294967296))
theorem takeTo_len (L : List Int) (j : Nat) (d : List Int) (q : Int) : ∀ i, (takeTo L j d q i).2.2.length = L.length
  | 0 => rfl
  | i + 1 => by simp only [takeTo, List.length_set]; exact takeTo_len L j d q i
set_option maxHeartbeats 1000000 in
set_option maxRecDepth 100000 in
theorem big_take.part (g j m c0 : Nat) (A1 : Option Addr) (c1 : Nat) (L d : List Int) (q : Int) (w : World) (hg : Row32 w g L) (hj : j + m ≤ L.length) (hd : Aside32 w g A1 c1 d) (hm : m ≤ 1000000) :
    Calls Tryd.prog 143 #[.slice (some ⟨g, j, none⟩) m c0, .slice A1 d.length c1, .int .u64 q] w fun e w' => e = .returned (.bool ((takeTo L j d q m).1 != 0)) ∧ Only w w' g ∧ Row32 w' g (takeTo L j d q m).2.2 := by
  have HD := aM hd; have HG := aM hg; (have HO := aM (Only.refl w g)); have HJ := aM hj; (have hdl : (d.length : Int) ≤ 9223372036854775807 := by have := hd.1.2.1; omega); clear hd hg hj; (go_enter Tryd.func143, Tryd.ntmps143); go_wp2; (go_loopg [7, 8, 13] m (fun gk v7 v8 v13 w' => ∃ (i : Nat) (b c : Int) (R : List Int), v7 = .int .u64 b ∧ v8 = .int .u64 c ∧ v13 = .int .i64 (i : Int) ∧ i ≤ m ∧ Aside0 (takeTo L j d q i = (b, c, R)) ∧ Aside0 (gk = m - i) ∧ Aside0 (Row32 w' g R) ∧ Aside0 (Only w w' g))); (case atStart => exact ⟨0, 0, 0, L, rfl, rfl, rfl, by omega, ⟨rfl⟩, ⟨by omega⟩, ⟨HG.out⟩, ⟨HO.out⟩⟩)
  case round =>
   clear HG HO; obtain ⟨i, b, c, R, rfl, rfl, rfl, hi, HT, HK, HG, HO⟩ := hrel; (have HRL : Aside0 (R.length = L.length) := ⟨by have := takeTo_len L j d q i; rw [HT.out] at this; exact this⟩); by_cases hlt : i < m; rotate_left
   · (obtain rfl : i = m := by omega); go_wp2; go_ret; (exact ⟨by rw [HT.out]; rfl, HO.out, by rw [HT.out]; exact HG.out⟩)
   (have hf := HG.out.free (j + i)); (have hx := HG.out.cell (j + i) (by have := HRL.out; have := HJ.out; omega)); (have HN : Aside0 (takeTo L j d q (i + 1) = (takeV (rd R ((j + i : Nat) : Int)) b (takeC q d i c) / 9223372036854775808, takeC q d i c / 4294967296, R.set (j + i) (takeV (rd R ((j + i : Nat) : Int)) b (takeC q d i c) % 4294967296))) := ⟨by simp only [takeTo, HT.out]⟩); by_cases hdd : i < d.length; rotate_left
   · (have HC : Aside0 (takeC q d i c = c) := ⟨by unfold takeC; rw [if_neg hdd]⟩); go_wp2; (go_roundg (m - (i + 1))); (case measure => have := HK.out; omega); (case rel => exact ⟨i + 1, _, _, _, rfl, rfl, by go_num, by omega, ⟨by rw [HN.out, HC.out]; simp only [takeV, Int.natCast_add]⟩, ⟨by omega⟩, ⟨HG.out.put _ _⟩, ⟨HO.out.set_ _ _⟩⟩)
   (obtain ⟨ad, e1, hy⟩ := Kd.at_int (HD.out.only HO.out).1 (i : Int) z3 z3); cases e1; simp only [Int.toNat_natCast] at hy; (have HC : Aside0 (takeC q d i c = IntKind.u64.wrap (c + IntKind.u64.wrap (q * IntKind.u64.wrap (rd d (i : Int))))) := ⟨by unfold takeC; rw [if_pos hdd]⟩); go_wp2; (go_roundg (m - (i + 1))); (case measure => have := HK.out; omega); (case rel => exact ⟨i + 1, _, _, _, rfl, rfl, by go_num, by omega, ⟨by rw [HN.out, HC.out]; simp only [takeV, Int.natCast_add]⟩, ⟨by omega⟩, ⟨HG.out.put _ _⟩, ⟨HO.out.set_ _ _⟩⟩)
def giveC (R : List Int) (j : Nat) (d : List Int) (i : Nat) (c : Int) : Int := if i < d.length then IntKind.u64.wrap (IntKind.u64.wrap (c + IntKind.u64.wrap (rd R ((j + i : Nat) : Int))) + IntKind.u64.wrap (rd d (i : Int))) else IntKind.u64.wrap (c + IntKind.u64.wrap (rd R ((j + i : Nat) : Int)))
def giveTo (L : List Int) (j : Nat) (d : List Int) : Nat → Int × List Int
  | 0 => (0, L)
  | i + 1 => (giveC (giveTo L j d i).2 j d i (giveTo L j d i).1 / 4294967296, (giveTo L j d i).2.set (j + i) (giveC (giveTo L j d i).2 j d i (giveTo L j d i).1 % 4294967296))
theorem giveTo_len (L : List Int) (j : Nat) (d : List Int) : ∀ i, (giveTo L j d i).2.length = L.length
  | 0 => rfl
  | i + 1 => by simp only [giveTo, List.length_set]; exact giveTo_len L j d i
set_option maxHeartbeats 1000000 in
set_option maxRecDepth 100000 in
theorem big_give.part (g j m c0 : Nat) (A1 : Option Addr) (c1 : Nat) (L d : List Int) (w : World) (hg : Row32 w g L) (hj : j + m ≤ L.length) (hd : Aside32 w g A1 c1 d) (hm : m ≤ 1000000) :
    Calls Tryd.prog 144 #[.slice (some ⟨g, j, none⟩) m c0, .slice A1 d.length c1] w fun e w' => e = .returned (.tuple #[]) ∧ Only w w' g ∧ Row32 w' g (giveTo L j d m).2 := by
  have HD := aM hd; have HG := aM hg; (have HO := aM (Only.refl w g)); have HJ := aM hj; (have hdl : (d.length : Int) ≤ 9223372036854775807 := by have := hd.1.2.1; omega); clear hd hg hj; (go_enter Tryd.func144, Tryd.ntmps144); go_wp2; (go_loopg [4, 8] m (fun gk v4 v8 w' => ∃ (i : Nat) (c : Int) (R : List Int), v4 = .int .u64 c ∧ v8 = .int .i64 (i : Int) ∧ i ≤ m ∧ Aside0 (giveTo L j d i = (c, R)) ∧ Aside0 (gk = m - i) ∧ Aside0 (Row32 w' g R) ∧ Aside0 (Only w w' g))); (case atStart => exact ⟨0, 0, L, rfl, rfl, by omega, ⟨rfl⟩, ⟨by omega⟩, ⟨HG.out⟩, ⟨HO.out⟩⟩)
  case round =>
   clear HG HO; obtain ⟨i, c, R, rfl, rfl, hi, HT, HK, HG, HO⟩ := hrel; (have HRL : Aside0 (R.length = L.length) := ⟨by have := giveTo_len L j d i; rw [HT.out] at this; exact this⟩); by_cases hlt : i < m; rotate_left
   · (obtain rfl : i = m := by omega); go_wp2; (go_end0); (exact ⟨rfl, HO.out, by rw [HT.out]; exact HG.out⟩)
   (have hf := HG.out.free (j + i)); (have hx := HG.out.cell (j + i) (by have := HRL.out; have := HJ.out; omega)); (have HN : Aside0 (giveTo L j d (i + 1) = (giveC R j d i c / 4294967296, R.set (j + i) (giveC R j d i c % 4294967296))) := ⟨by simp only [giveTo, HT.out]⟩); by_cases hdd : i < d.length; rotate_left
   · (have HC : Aside0 (giveC R j d i c = IntKind.u64.wrap (c + IntKind.u64.wrap (rd R ((j + i : Nat) : Int)))) := ⟨by unfold giveC; rw [if_neg hdd]⟩); go_wp2; (go_roundg (m - (i + 1))); (case measure => have := HK.out; omega); (case rel => exact ⟨i + 1, _, _, rfl, by go_num, by omega, ⟨by rw [HN.out, HC.out]; simp only [Int.natCast_add]⟩, ⟨by omega⟩, ⟨HG.out.put _ _⟩, ⟨HO.out.set_ _ _⟩⟩)
   (obtain ⟨ad, e1, hy⟩ := Kd.at_int (HD.out.only HO.out).1 (i : Int) z3 z3); cases e1; simp only [Int.toNat_natCast] at hy; (have HC : Aside0 (giveC R j d i c = IntKind.u64.wrap (IntKind.u64.wrap (c + IntKind.u64.wrap (rd R ((j + i : Nat) : Int))) + IntKind.u64.wrap (rd d (i : Int)))) := ⟨by unfold giveC; rw [if_pos hdd]⟩); go_wp2; (go_roundg (m - (i + 1))); (case measure => have := HK.out; omega); (case rel => exact ⟨i + 1, _, _, rfl, by go_num, by omega, ⟨by rw [HN.out, HC.out]; simp only [Int.natCast_add]⟩, ⟨by omega⟩, ⟨HG.out.put _ _⟩, ⟨HO.out.set_ _ _⟩⟩)
theorem big_take.part2 (g j m n mm c0 : Nat) (A1 : Option Addr) (c1 : Nat) (L d : List Int) (q : Int) (tb : Bool) (w : World) (hg : Row32 w g L) (hj : j + mm ≤ L.length) (hd : Aside32 w g A1 c1 d) (hm : mm ≤ 1000000) (hn : d.length = n) (hmm : m = mm) (htb : ((takeTo L j d q mm).1 != 0) = tb) :
    Calls Tryd.prog 143 #[.slice (some ⟨g, j, none⟩) m c0, .slice A1 n c1, .int .u64 q] w fun e w' => e = .returned (.bool tb) ∧ Only w w' g ∧ Row32 w' g (takeTo L j d q mm).2.2 := by
  subst hn hmm htb
  exact big_take.part g j m c0 A1 c1 L d q w hg hj hd hm
theorem big_give.part2 (g j m n mm c0 : Nat) (A1 : Option Addr) (c1 : Nat) (L d : List Int) (w : World) (hg : Row32 w g L) (hj : j + mm ≤ L.length) (hd : Aside32 w g A1 c1 d) (hm : mm ≤ 1000000) (hn : d.length = n) (hmm : m = mm) :
    Calls Tryd.prog 144 #[.slice (some ⟨g, j, none⟩) m c0, .slice A1 n c1] w fun e w' => e = .returned (.tuple #[]) ∧ Only w w' g ∧ Row32 w' g (giveTo L j d mm).2 := by
  subst hn hmm
  exact big_give.part g j m c0 A1 c1 L d w hg hj hd hm
end Go.Proofs.YtbanemecfobonaaDoor.B
end
section
namespace Go.Proofs
open Go.Shelf
def Tryd.lays133_ren : Go.Shelf.Ren := ⟨fun | 133 => 141 | 128 => 145 | n => n, fun | 51 => 149 | 3 => 3 | 4 => 4 | 46 => 116 | 5 => 5 | 9 => 9 | n => n, fun | n => n⟩
theorem Tryd.lays133 : Go.Proofs.Lays.n133 Tryd.prog Tryd.lays133_ren := {
  mixed := by kernel_rfl
  f128 := Tryd.func145.trans (congrArg some (by kernel_rfl))
  f133 := Tryd.func141.trans (congrArg some (by kernel_rfl))
  t3 := Tryd.underlying3
  a3 := Tryd.isAgg3
  z3 := Tryd.sizeOf3
  v3 := Tryd.zeroValue3
  t4 := Tryd.underlying4
  a4 := Tryd.isAgg4
  z4 := Tryd.sizeOf4
  v4 := Tryd.zeroValue4
  t5 := Tryd.underlying5
  a5 := Tryd.isAgg5
  z5 := Tryd.sizeOf5
  v5 := Tryd.zeroValue5
  t9 := Tryd.underlying9
  a9 := Tryd.isAgg9
  z9 := Tryd.sizeOf9
  v9 := Tryd.zeroValue9
  t46 := Tryd.underlying116
  a46 := Tryd.isAgg116
  z46 := Tryd.sizeOf116
  v46 := Tryd.zeroValue116
  t51 := Tryd.underlying149
  a51 := Tryd.isAgg149
  z51 := Tryd.sizeOf149
  v51 := Tryd.zeroValue149 }
theorem Tryd.bits_LeadingZeros32 (x : Int) (w : World) (h0 : 0 ≤ x) (h1 : x ≤ 4294967295) :
    Calls Tryd.prog 141 #[.int .u32 x] w fun e w' => e = .returned (.int .i64 (32 - (Lib.bitLen x.toNat : Int))) ∧ w' = w := Any.bits_LeadingZeros32 Tryd.lays133 x w h0 h1
end Go.Proofs
end
section
namespace Go.Proofs.YtbanemecfobonaaDoor.B
open Go.RowKit Go.Proofs.YtbanemecfobonaaDoorW.PrintWords Go.Proofs.YtbanemecfobonaaDoorW.PrintLast Go.Proofs.YtbanemecfobonaaDoorW.PrintMore
set_option linter.unusedVariables false
set_option linter.unusedSimpArgs false
def two (a b : Int) : Int := Go.bits .or .u64 (IntKind.u64.wrap (IntKind.u64.wrap a * 4294967296)) (IntKind.u64.wrap b)
def guess (d1 d2 u2 : Int) : Nat → Int → Int → Option (Int × Int)
  | 0, _, _ => none
  | k + 1, q, r =>
    if r < 4294967296 then
      if 4294967296 ≤ q then guess d1 d2 u2 k (IntKind.u64.wrap (q - 1)) (IntKind.u64.wrap (r + IntKind.u64.wrap d1))
      else if Go.bits .or .u64 (IntKind.u64.wrap (r * 4294967296)) (IntKind.u64.wrap u2) < IntKind.u64.wrap (q * IntKind.u64.wrap d2) then guess d1 d2 u2 k (IntKind.u64.wrap (q - 1)) (IntKind.u64.wrap (r + IntKind.u64.wrap d1))
      else some (q, r)
    else some (q, r)
def longStep (k n : Nat) (d : List Int) (j : Nat) (R : List Int) : Option (Int × List Int) :=
  if 0 ≤ two (rd R ((j + n : Nat) : Int)) (rd R ((j + n - 1 : Nat) : Int)) then
    (guess (rd d ((n - 1 : Nat) : Int)) (rd d ((n - 2 : Nat) : Int)) (rd R ((j + n - 2 : Nat) : Int)) k (IntKind.u64.wrap (Int.tdiv (two (rd R ((j + n : Nat) : Int)) (rd R ((j + n - 1 : Nat) : Int))) (IntKind.u64.wrap (rd d ((n - 1 : Nat) : Int))))) (two (rd R ((j + n : Nat) : Int)) (rd R ((j + n - 1 : Nat) : Int)) % IntKind.u64.wrap (rd d ((n - 1 : Nat) : Int)))).bind fun s =>
      if ((takeTo R j d s.1 (n + 1)).1 != 0) = true then some (IntKind.u64.wrap (s.1 - 1), (giveTo (takeTo R j d s.1 (n + 1)).2.2 j d (n + 1)).2) else some (s.1, (takeTo R j d s.1 (n + 1)).2.2)
  else none
theorem rd_take (D : List Int) (n i : Nat) (h : i < n) : rd (D.take n) (i : Int) = rd D (i : Int) := by
  show (D.take n).getD i 0 = D.getD i 0
  rw [List.getD_eq_getElem?_getD, List.getElem?_take, if_pos h, List.getD_eq_getElem?_getD]
def longTo (k n : Nat) (d : List Int) : Nat → List Int → List Int → Option (List Int × List Int)
  | 0, R, out => some (R, out)
  | j + 1, R, out => (longStep k n d j R).bind fun s => longTo k n d j s.2 (out.set j (s.1 % 4294967296))
def backTo (R : List Int) (by' : Int) (n : Nat) : Nat → List Int
  | 0 => List.replicate n 0
  | i + 1 => (backTo R by' n i).set i (two (rd R ((i + 1 : Nat) : Int)) (rd R (i : Int)) / 2 ^ min by'.toNat 64 % 4294967296)
theorem backTo_len (R : List Int) (s : Int) (n : Nat) : ∀ i, (backTo R s n i).length = n
  | 0 => List.length_replicate
  | i + 1 => by rw [backTo, List.length_set]; exact backTo_len R s n i
def long (k : Nat) (a b : List Int) : Option (List Int × List Int) :=
  if 2 ≤ b.length ∧ b.length ≤ a.length ∧ a.length ≤ 1000 ∧ 0 < rd b ((b.length - 1 : Nat) : Int) ∧ rd b ((b.length - 1 : Nat) : Int) < 4294967296 then
    (big_shift.f k a (32 - (Lib.bitLen (rd b ((b.length - 1 : Nat) : Int)).toNat : Int))).bind fun R => (big_shift.f k b (32 - (Lib.bitLen (rd b ((b.length - 1 : Nat) : Int)).toNat : Int))).bind fun D =>
      if 0 < IntKind.u64.wrap (rd D ((b.length - 1 : Nat) : Int)) ∧ R.length = a.length + 1 ∧ D.length = b.length + 1 then
        (longTo k b.length (D.take b.length) (a.length - b.length + 1) R (List.replicate (a.length - b.length + 1) 0)).bind fun s =>
          (big_trim.f k s.2).bind fun q => (big_trim.f k (backTo s.1 (32 - (Lib.bitLen (rd b ((b.length - 1 : Nat) : Int)).toNat : Int)) b.length b.length)).bind fun r => some (q, r)
      else none
  else none
set_option maxHeartbeats 1000000 in
set_option maxRecDepth 100000 in
theorem big_trim.row (k g c : Nat) (L r : List Int) (w : World) (hg : Row32 w g L) (hc : L.length ≤ c) (hl : L.length ≤ 1000000) (h : big_trim.f k L = some r) :
    Calls Tryd.prog 123 #[.slice (some ⟨g, 0, none⟩) L.length c] w fun e w' => e = .returned (.slice (some ⟨g, 0, none⟩) r.length c) ∧ (∃ m, m ≤ L.length ∧ r = L.take m) ∧ w = w' := by
  have HG := aM hg; (have H := aM (show big_trim.l0 k L (L.length : Int) = some r from h)); have HC := aM hc; clear hg h hc; (go_enter Tryd.func123, Tryd.ntmps123); go_wp2; (go_loopg [3] k (fun gk v3 w' => ∃ n : Nat, v3 = .int .i64 (n : Int) ∧ n ≤ L.length ∧ Aside0 (big_trim.l0 gk L (n : Int) = some r) ∧ w = w')); (case atStart => exact ⟨L.length, rfl, by omega, H, rfl⟩)
  case round =>
   clear H; obtain ⟨n, rfl, hn, H, rfl⟩ := hrel
   cases gk with
   | zero => exact absurd H.out (by simp [big_trim.l0])
   | succ gk =>
    have h := H.out; rw [big_trim.l0] at h; clear H; by_cases hp : n = 0
    · subst hp; rw [if_neg z3, if_pos z3, if_pos z3] at h; have H := aM h; clear h; have hc := HC.out; go_wp2; go_ret; (have := sI H.out); (exact ⟨by rw [← this]; rfl, ⟨0, by omega, this.symm⟩, rfl⟩)
    (have e : wrap64 ((n : Int) - 1) = ((n - 1 : Nat) : Int) := by unfold wrap64; omega); rw [if_pos z3, e, if_pos z3, if_pos z3] at h; (have hx := HG.out.cell (n - 1) z3); (have hp1 : 0 < n := by omega); by_cases hz : rd L ((n - 1 : Nat) : Int) = 0
    · rw [if_pos hz] at h; rw [hz] at hx; have H := aM h; clear h hz e hp; go_wp2; (go_roundg gk); (case measure => omega); (case rel => exact ⟨n - 1, by congr 1; omega, by omega, H, rfl⟩)
    rw [if_neg hz, if_pos z3, if_pos z3] at h; (have hb : ((rd L ((n - 1 : Nat) : Int)) == 0) = false := by simpa using hz); have H := aM h; have hc := HC.out; clear h hz e hp; go_wp2; go_ret; (have e2 : L.take n = r := by have := sI H.out; rw [Int.toNat_natCast] at this; exact this); (exact ⟨by rw [← e2, List.length_take, Nat.min_eq_left hn]; rfl, ⟨n, hn, e2.symm⟩, rfl⟩)
theorem big_trim.row2 (k g c n : Nat) (L r : List Int) (w : World) (hg : Row32 w g L) (hn : L.length = n) (hc : n ≤ c) (hl : n ≤ 1000000) (h : big_trim.f k L = some r) :
    Calls Tryd.prog 123 #[.slice (some ⟨g, 0, none⟩) n c] w fun e w' => e = .returned (.slice (some ⟨g, 0, none⟩) r.length c) ∧ (∃ m, m ≤ L.length ∧ r = L.take m) ∧ w = w' := by
  subst hn
  exact big_trim.row k g c L r w hg hc hl h
theorem lz32 (x s : Int) (w : World) (h0 : 0 < x) (h1 : x < 4294967296) (hs : 32 - (Lib.bitLen x.toNat : Int) = s) :
    Calls Tryd.prog 141 #[.int .u32 x] w fun e w' => e = .returned (.int .i64 s) ∧ w = w' :=
  (Tryd.bits_LeadingZeros32 x w z3 z3).mono fun e w' h => ⟨by rw [h.1, hs], h.2.symm⟩
set_option maxHeartbeats 2000000 in
set_option maxRecDepth 100000 in
theorem big_long.calls (k : Nat) (A0 A1 : Option Addr) (c0 c1 : Nat) (a b q r : List Int) (w : World) (h0 : WA w A0 c0 a) (h1 : WA w A1 c1 b) (h : long k a b = some (q, r)) :
    Calls Tryd.prog 140 #[.slice A0 a.length c0, .slice A1 b.length c1] w fun e w' => ∃ Aq cq Ar cr, e = .returned (.tuple #[.slice Aq q.length cq, .slice Ar r.length cr]) ∧ WA w' Aq cq q ∧ WA w' Ar cr r ∧ Below w.heap.size w w' := by
  (unfold long at h); (obtain ⟨s, hs⟩ : ∃ s, 32 - (Lib.bitLen (rd b ((b.length - 1 : Nat) : Int)).toNat : Int) = s := ⟨_, rfl⟩); rw [hs] at h; (split at h); (case isFalse => cases h); (rename_i hc); obtain ⟨hb2, hba, ha1, ht0, ht1⟩ := hc; (obtain ⟨R, hR, h⟩ := oB h); (obtain ⟨D, hD, h⟩ := oB h); (split at h); (case isFalse => cases h); (rename_i hc); obtain ⟨hd0, hRl, hDl⟩ := hc; have H0 := aM h0; have H1 := aM h1; have HH := aM h; have HR := aM hR; have HD := aM hD; have HSS := aM hs; (obtain ⟨ad, e1, hy⟩ := Kd.at_int h1.1 ((b.length - 1 : Nat) : Int) z3 z3); cases e1; simp only [Int.toNat_natCast] at hy; clear h0 h1 h hR hD hs; have HTB := aM ht0; have HTB1 := aM ht1; (have HS := aM (⟨hd0, hRl, hDl⟩ : _ ∧ _ ∧ _)); clear ht0 ht1 hd0 hRl hDl; (go_enter Tryd.func140, Tryd.ntmps140); (go_wp2_with (first | (go_at_call 141; refine (lz32 _ s _ HTB.out HTB1.out HSS.out).mono ?_; rintro e w1 ⟨rfl, rfl⟩)))
  go_region_held3 (fun _ => True) (exact trivial)
    (first
    | (go_at_call_of 142 (Value.slice A0 a.length c0); refine (big_shift.calls k A0 c0 a s R _ ?q1 H0.out.2.1 HR.out).mono ?_; (case q1 => exact Kd.C_below H0.out.1 (by repeat (first | exact Below.refl _ _ | apply below_drew1 | apply pw_below_drewN))); rintro e w1 ⟨v, rfl, hv, hb⟩; replace hb : Below w.heap.size w w1 := ⟨hb.os, hb.tape, hb.output, hb.size, hb.block⟩; have b1 := aM hb; clear hb; obtain ⟨gr, cr, rfl, hcr, hgr, hrow⟩ := Row32.of_R hv (by have := HS.out; omega); have R1 := aM hrow; have G1 := aM hgr; have C1 := aM hcr; clear hv hrow hgr hcr)
    | (go_at_call_of 142 (Value.slice (some ad) b.length c1); refine (big_shift.calls k (some ad) c1 b s D _ ?q1 H1.out.2.1 HD.out).mono ?_; (case q1 => exact Kd.C_below H1.out.1 (by repeat (first | exact Below.refl _ _ | exact b1.out | apply below_drew1 | apply pw_below_drewN))); rintro e w2 ⟨v, rfl, hv, hb⟩; replace hb : Below w1.heap.size w1 w2 := ⟨hb.os, hb.tape, hb.output, hb.size, hb.block⟩; have b2 := aM hb; clear hb; obtain ⟨gd, cd, rfl, hcd, hgd, hrow⟩ := Row32.of_R hv (by have := HS.out; omega); have R2 := aM hrow; have G2 := aM hgd; have hcd2 : b.length ≤ cd := (by have := HS.out; omega); clear hv hrow hgd hcd))
  (have HB2 : Aside0 (Below w.heap.size w w2) := ⟨below_step b1.out b2.out⟩); (have R1' : Aside0 (Row32 w2 gr R) := ⟨R1.out.below b2.out⟩); (have NE1 : Aside0 (gr ≠ gd) := ⟨by have := R1.out.lt; have := G2.out; simp only [drew_size] at *; omega⟩); (have G2' : Aside0 (w.heap.size ≤ gd) := ⟨by have := b1.out.size; have := G2.out; simp only [drew_size] at *; omega⟩); (have G1' : Aside0 (w.heap.size ≤ gr) := ⟨by have := G1.out; simp only [drew_size] at *; omega⟩); (have hcr2 : a.length + 1 ≤ cr := by have := HS.out; have := C1.out; omega); clear R1 G1 G2 C1 b1; (rename_i hHeld); clear hHeld; (have HLEN : Aside0 (((a.length : Int) - b.length + 1).toNat = a.length - b.length + 1) := ⟨by omega⟩); (go_wp2_with (first | ((with_reducible refine gate_dst (N := 40) rfl ?_); refine Kd.R_make (Kd.int .u32) _ 149 rfl (N := 40) rfl 119 _ _ rfl ((a.length : Int) - b.length + 1) rfl rfl Tryd.underlying119 (.int .u32 0) 4 info149 rfl z10 z3 0 (ok := fun _ => True) (okp := fun _ => True) rfl (fun _ hk => hk) trivial z3 z3 (Below.refl _ _) (Nat.le_refl _) ?_; intro vO w3 hO hb hg_ hnew_; clear hg_ hnew_; rw [HLEN.out] at hO; have HO_ := aM hO; have b3 := aM hb; clear hb hO))); (obtain ⟨go, co, rfl, hco, hgo, hrow⟩ := Row32.of_R HO_.out (by rw [List.length_replicate]; omega)); rw [List.length_replicate]; rw [List.length_replicate] at hco; (obtain ⟨S, hS, h⟩ := oB HH.out); (obtain ⟨Q, hQ, h⟩ := oB h); (obtain ⟨T, hT, h⟩ := oB h)
  (have HF := aM (⟨hQ, hT, h⟩ : _ ∧ _ ∧ _)); have HS0 := aM hS; clear hS hQ hT h HH; (have R3 : Aside0 (Row32 w3 gr R) := ⟨R1'.out.below b3.out⟩); (have D3 : Aside0 (Row32 w3 gd D) := ⟨R2.out.below b3.out⟩); (have HB3 : Aside0 (Below w.heap.size w w3) := ⟨below_step HB2.out b3.out⟩); (have NE2 : Aside0 (go ≠ gd ∧ go ≠ gr ∧ w.heap.size ≤ go) := ⟨by have h1 := R2.out.lt; have h2 := R1'.out.lt; have h3 := HB2.out.size; omega⟩); have O3 := aM hrow; clear hrow hgo HO_ R1' R2 HB2 b2 b3; (have HLO : Aside0 ((List.replicate (a.length - b.length + 1) (0 : Int)).length = a.length - b.length + 1) := ⟨List.length_replicate⟩); (go_loopg [11] (a.length - b.length + 1) (fun gk v11 w' => ∃ (j : Nat) (Rj Oj : List Int), v11 = .int .i64 ((j : Int) - 1) ∧ j ≤ a.length - b.length + 1 ∧ Aside0 (gk = j) ∧ Aside0 (longTo k b.length (D.take b.length) j Rj Oj = some S) ∧ Aside0 (Rj.length = a.length + 1) ∧ Aside0 (Oj.length = a.length - b.length + 1) ∧ Aside0 (Row32 w' gr Rj) ∧ Aside0 (Row32 w' go Oj) ∧ Aside0 (Row32 w' gd D) ∧ Aside0 (Below w.heap.size w w'))); (case atStart => exact ⟨a.length - b.length + 1, R, _, by congr 1; omega, Nat.le_refl _, ⟨rfl⟩, HS0, ⟨HS.out.2.1⟩, HLO, R3, O3, D3, HB3⟩)
  case round =>
   clear R3 O3 D3 HB3 HLO HS0; obtain ⟨j, Rj, Oj, rfl, hj, HK, HT, HRL, HOL, R3, O3, D3, HB3⟩ := hrel
   cases j with
   | zero =>
    (have hSS : S = (Rj, Oj) := by have := HT.out; simp only [longTo, Option.some.injEq] at this; exact this.symm); subst hSS; (have hs0 : 0 ≤ s := by have := Any.bitLen_le32 _ (Int.le_of_lt HTB.out) (by have := HTB1.out; omega); have := HSS.out; omega); (have HBL : Aside0 (((b.length : Int)).toNat = b.length) := ⟨by omega⟩); (have hbl : (b.length : Int) ≤ 9223372036854775807 := by omega); clear HT; (go_wp2_with (first | ((with_reducible refine gate_dst (N := 147) rfl ?_); refine Kd.R_make (Kd.int .u32) _ 149 rfl (N := 147) rfl 119 _ _ rfl (b.length : Int) rfl rfl Tryd.underlying119 (.int .u32 0) 4 info149 rfl z10 z3 0 (ok := fun _ => True) (okp := fun _ => True) rfl (fun _ hk => hk) trivial z3 z3 (Below.refl _ _) (Nat.le_refl _) ?_; intro vB w4 hO hb hg_ hnew_; clear hg_ hnew_; simp only [Int.toNat_natCast] at hO; obtain ⟨gb, cb, rfl, hcb, hgb, hrow⟩ := Row32.of_R hO (by rw [List.length_replicate]; omega); rw [List.length_replicate]; rw [List.length_replicate] at hcb; have b4 := aM hb; have BB := aM hrow; have hgb := aM hgb; clear hb hO hrow))); (have R4 : Aside0 (Row32 w4 gr Rj) := ⟨R3.out.below b4.out⟩); (have O4 : Aside0 (Row32 w4 go Oj) := ⟨O3.out.below b4.out⟩); (have B4 : Aside0 (Below w.heap.size w w4) := ⟨below_step HB3.out b4.out⟩); (have NE4 : Aside0 (gb ≠ gr ∧ gb ≠ go ∧ w.heap.size ≤ gb) := ⟨by have h1 := R3.out.lt; have h2 := O3.out.lt; have h3 := HB3.out.size; have h4 := hgb.out; omega⟩); clear hgb R3 O3 D3 HB3 b4; (go_loopg [150] b.length (fun gk v150 w' => ∃ (i : Nat), v150 = .int .i64 (i : Int) ∧ i ≤ b.length ∧ Aside0 (gk = b.length - i) ∧ Aside0 (Row32 w' gb (backTo Rj s b.length i)) ∧ Aside0 (Row32 w' gr Rj) ∧ Aside0 (Row32 w' go Oj) ∧ Aside0 (Below w.heap.size w w')))
    (case atStart => exact ⟨0, rfl, by omega, ⟨rfl⟩, BB, R4, O4, B4⟩)
    case round =>
     clear BB R4 O4 B4; obtain ⟨i, rfl, hi, HK2, BB, R4, O4, B4⟩ := hrel; by_cases hlt : i < b.length; rotate_left
     · (obtain rfl : i = b.length := by omega); obtain ⟨t1, t2, t3⟩ := HF.out; (obtain ⟨t3, t4⟩ := Prod.mk.inj (sI t3)); subst t3 t4; have T1 := aM t1; have T2 := aM t2; (have HBT : Aside0 ((backTo Rj s b.length b.length).length = b.length) := ⟨backTo_len _ _ _ _⟩); clear t1 t2 HF; (go_wp2_with (first | (go_at_call 123; (with_reducible refine (big_trim.row2 k go co (a.length - b.length + 1) Oj Q _ O4.out HOL.out z3 z3 T1.out).mono ?_); rintro e w7 ⟨rfl, ⟨m1, hm1, hr1⟩, rfl⟩; have M1 := aM (⟨hm1, hr1⟩ : _ ∧ _); clear hm1 hr1) | (go_at_call 123; (with_reducible refine (big_trim.row2 k gb cb b.length (backTo Rj s b.length b.length) T _ BB.out HBT.out z3 z3 T2.out).mono ?_); rintro e w8 ⟨rfl, ⟨m2, hm2, hr2⟩, rfl⟩; have M2 := aM (⟨hm2, hr2⟩ : _ ∧ _); clear hm2 hr2))); go_ret2; obtain ⟨p1, p2⟩ := M1.out; obtain ⟨p3, p4⟩ := M2.out; (have w1 := O4.out.wa (by have := HOL.out; omega) m1 p1 (c := co) (by have := HOL.out; omega)); (have w2 := BB.out.wa (by have := HBT.out; omega) m2 p3 (c := cb) (by have := HBT.out; omega)); rw [← p2] at w1; rw [← p4] at w2; (exact ⟨_, _, _, _, rfl, w1, w2, B4.out⟩)
     (have hu := R4.out.cell i (by have := HRL.out; omega)); (have hu1 := R4.out.cell (i + 1) (by have := HRL.out; omega)); (have hxo := BB.out.cell i (by rw [backTo_len]; omega)); (have hfo := BB.out.free i); go_wp2; (have l1 : (i : Int) + 1 < (R.length : Int) := by have := HS.out; omega); (have l2 : i < R.length := by have := HS.out; omega); (have z1 : 0 ≤ (i : Int) + 1 := by omega); (have n1 : ((i : Int) + 1).toNat = i + 1 := by omega); (have s1 : IntKind.i64.wrap ((i : Int) + 1) = (i : Int) + 1 := IntWalk.i64_in _ z3); (go_still_tail 19, z9); clear s1 n1 z1 l1 l2; (change wpList _ _ _ _ _ (wr.drewN 1)); go_wp2; (go_roundg (b.length - (i + 1))); (case measure => have := HK2.out; omega); (case rel => exact ⟨i + 1, by go_num, by omega, ⟨rfl⟩, ⟨by rw [backTo]; have := (BB.out.below (pw_below_drewN (Below.refl _ _) 1)).put i (two (rd Rj ((i + 1 : Nat) : Int)) (rd Rj (i : Int)) / 2 ^ min s.toNat 64 % 4294967296); exact this⟩, ⟨(R4.out.below (pw_below_drewN (Below.refl _ _) _)).only ((Only.refl _ gb).set_ _ _) (by have := NE4.out; omega)⟩, ⟨(O4.out.below (pw_below_drewN (Below.refl _ _) _)).only ((Only.refl _ gb).set_ _ _) (by have := NE4.out; omega)⟩, ⟨below_set (pw_below_drewN B4.out _) NE4.out.2.2⟩⟩)
   | succ j =>
    (have ej : (((j + 1 : Nat) : Int) - 1) = (j : Int) := by omega); rw [ej]; clear ej; (obtain ⟨x, hx, hl⟩ := oB HT.out); (unfold longStep at hx); (split at hx); (case isFalse => cases hx); (rename_i hTn); (obtain ⟨y, hy2, hl2⟩ := oB hx); have HL := aM hl; have HL2 := aM hl2; have HGU := aM hy2; clear hx hl hl2 hy2 HT; (have hu := R3.out.cell (j + b.length) (by have := HRL.out; omega)); (have hu1 := R3.out.cell (j + b.length - 1) (by have := HRL.out; omega)); (have hu2 := R3.out.cell (j + b.length - 2) (by have := HRL.out; omega)); (have hd1 := D3.out.cell (b.length - 1) (by have := HS.out; omega)); (have hd2 := D3.out.cell (b.length - 2) (by have := HS.out; omega)); have hV := HS.out.1; have hy2 := HGU.out; clear HGU; rw [rd_take _ _ _ z3, rd_take _ _ _ z3] at hy2; (generalize rd Rj ((j + b.length : Nat) : Int) = u at hu hy2 hTn); (generalize rd Rj ((j + b.length - 1 : Nat) : Int) = u1 at hu1 hy2 hTn); (generalize rd Rj ((j + b.length - 2 : Nat) : Int) = u2 at hu2 hy2); (generalize rd D ((b.length - 1 : Nat) : Int) = v1 at hd1 hy2 hV); (generalize rd D ((b.length - 2 : Nat) : Int) = v2 at hd2 hy2); have HGU := aM hy2; have HTN := aM hTn; clear hy2 hTn; go_wp2; (have hRl : R.length = a.length + 1 := HS.out.2.1); (have l1 : (j : Int) + b.length < (R.length : Int) := by omega); (have l2 : (j : Int) + b.length - 1 < (R.length : Int) := by omega); clear hRl; (have z1 : 0 ≤ (j : Int) + b.length := by omega); (have z2 : 0 ≤ (j : Int) + b.length - 1 := by omega)
    (have n1 : ((j : Int) + b.length).toNat = j + b.length := by omega); (have n2 : ((j : Int) + b.length - 1).toNat = j + b.length - 1 := by omega); (have s1 : IntKind.i64.wrap ((j : Int) + b.length) = (j : Int) + b.length := IntWalk.i64_in _ z3); (have s2 : IntKind.i64.wrap ((j : Int) + b.length - 1) = (j : Int) + b.length - 1 := IntWalk.i64_in _ z3); (go_quiet (fail)); clear s1 s2 n1 n2 l1 l2 z1 z2; go_wp2; (obtain ⟨T, hTT⟩ : ∃ T, Go.bits .or .u64 (IntKind.u64.wrap (IntKind.u64.wrap u * 4294967296)) (IntKind.u64.wrap u1) = T := ⟨_, rfl⟩); rw [hTT]; (have hT0 : 0 ≤ T := hTT ▸ HTN.out); have HTT := aM hTT; clear hTT HTN; (obtain ⟨W1, hW1⟩ : ∃ W1, W1 = wr.drewN nq := ⟨_, rfl⟩); rw [← hW1]; (have hw1 : W1.cell? ⟨gd, b.length - 1, none⟩ = some (.int .u32 v1) := by rw [hW1]; exact hd1); (have HW1 : Aside0 (Below wr.heap.size wr W1) := ⟨by rw [hW1]; exact pw_below_drewN (Below.refl _ _) _⟩); have HD1 := aM hd1; clear hW1 hu hu1 hd1; (have l1 : (b.length : Int) - 1 < (b.length : Int) := by omega); (have z1 : 0 ≤ (b.length : Int) - 1 := by omega); (have n1 : ((b.length : Int) - 1).toNat = b.length - 1 := by omega); (have s1 : IntKind.i64.wrap ((b.length : Int) - 1) = (b.length : Int) - 1 := IntWalk.i64_in _ z3); (go_quiet (fail)); clear s1 n1 l1 z1 hw1; go_wp2; (have HG0 : Aside0 (guess v1 v2 u2 k (IntKind.u64.wrap (T.tdiv (IntKind.u64.wrap v1))) (T % IntKind.u64.wrap v1) = some y) := ⟨HTT.out ▸ HGU.out⟩); have HD2 := aM hd2; have HU2 := aM hu2; clear HGU HTT hd2 hu2 hT0 hV; (obtain ⟨wo, rfl⟩ : ∃ wo : World, wo = wr := ⟨_, rfl⟩)
    (go_loopg [13, 14] k (fun gk v13 v14 w' => ∃ (q r : Int), v13 = .int .u64 q ∧ v14 = .int .u64 r ∧ Aside0 (guess v1 v2 u2 gk q r = some y) ∧ Aside0 (Below wo.heap.size wo w'))); (case atStart => exact ⟨_, _, rfl, rfl, HG0, ⟨pw_below_drewN HW1.out _⟩⟩)
    case round =>
     clear HG0 HW1; obtain ⟨q, r, rfl, rfl, HG, HW⟩ := hrel
     cases gk with
     | zero => exact absurd HG.out (by simp [guess])
     | succ gk =>
      (obtain ⟨G, hG⟩ : ∃ G, G = guess v1 v2 u2 gk (IntKind.u64.wrap (q - 1)) (IntKind.u64.wrap (r + IntKind.u64.wrap v1)) := ⟨_, rfl⟩); have hg := HG.out; rw [guess, ← hG] at hg; have HGG := aM hG; clear hG HG; (go_upto_region 10 with (fail)); (go_cut [109] (fun v109 wc => ∃ bb : Bool, v109 = .bool bb ∧ Aside0 ((if bb = true then G else some (q, r)) = some y) ∧ Aside0 (Below wo.heap.size wo wc)))
      case first =>
       (have hu2 := (HW.out.cell (World.block_lt_of_cell? _ _ HU2.out)).trans HU2.out); (have hd2 := (HW.out.cell (World.block_lt_of_cell? _ _ HD2.out)).trans HD2.out); (have l1 : (b.length : Int) - 2 < (b.length : Int) := by omega); (have z1 : 0 ≤ (b.length : Int) - 2 := by omega); (have l2 : (j : Int) + b.length - 2 < (R.length : Int) := by have := HS.out; omega); (have z2 : 0 ≤ (j : Int) + b.length - 2 := by omega); by_cases c1 : r < 4294967296; rotate_left
       · rw [if_neg c1] at hg; (have c1b := dF c1); clear c1; have HG := aM hg; clear hg; (go_quiet (fail)); (try go_wp2); go_meet; (case rel => exact ⟨false, by first | rfl | simp, HG, ⟨pw_below_drewN HW.out _⟩⟩)
       rw [if_pos c1] at hg; (have c1b := dT c1); clear c1; by_cases c2 : 4294967296 ≤ q
       · rw [if_pos c2] at hg; (have c2b := dT c2); clear c2; have HG := aM hg; clear hg; (go_quiet (fail)); (try go_wp2); go_meet; (case rel => exact ⟨true, by first | rfl | simp, HG, ⟨pw_below_drewN HW.out _⟩⟩)
       rw [if_neg c2] at hg; (have c2b := dF c2); clear c2; (have n1 : ((b.length : Int) - 2).toNat = b.length - 2 := by omega); (have n2 : ((j : Int) + b.length - 2).toNat = j + b.length - 2 := by omega); by_cases c3 : Go.bits .or .u64 (IntKind.u64.wrap (r * 4294967296)) (IntKind.u64.wrap u2) < IntKind.u64.wrap (q * IntKind.u64.wrap v2)
       · rw [if_pos c3] at hg; (have c3b := dT c3); clear c3; have HG := aM hg; clear hg; (have s1 : IntKind.i64.wrap ((b.length : Int) - 2) = (b.length : Int) - 2 := IntWalk.i64_in _ z3); (have s2 : IntKind.i64.wrap ((j : Int) + b.length) = (j : Int) + b.length := IntWalk.i64_in _ z3); (have s3 : IntKind.i64.wrap ((j : Int) + b.length - 2) = (j : Int) + b.length - 2 := IntWalk.i64_in _ z3); (go_quiet (fail)); (try go_wp2); go_meet; (case rel => exact ⟨true, by first | rfl | simp, HG, ⟨pw_below_drewN HW.out _⟩⟩)
       rw [if_neg c3] at hg; (have c3b := dF c3); clear c3; have HG := aM hg; clear hg; (have s1 : IntKind.i64.wrap ((b.length : Int) - 2) = (b.length : Int) - 2 := IntWalk.i64_in _ z3); (have s2 : IntKind.i64.wrap ((j : Int) + b.length) = (j : Int) + b.length := IntWalk.i64_in _ z3); (have s3 : IntKind.i64.wrap ((j : Int) + b.length - 2) = (j : Int) + b.length - 2 := IntWalk.i64_in _ z3); (go_quiet (fail)); (try go_wp2); go_meet; (case rel => exact ⟨false, by first | rfl | simp, HG, ⟨pw_below_drewN HW.out _⟩⟩)
      case rest =>
       clear hg HW; obtain ⟨bb, rfl, HG, HW⟩ := hcut; cases bb; rotate_left
       · (have hd1 : wc.cell? ⟨gd, b.length - 1, none⟩ = some (.int .u32 v1) := (HW.out.cell (World.block_lt_of_cell? _ _ HD1.out)).trans HD1.out); go_wp2; (go_roundg gk); (case measure => omega); (case rel => exact ⟨_, _, rfl, rfl, ⟨by have := HG.out; rw [← HGG.out]; simpa using this⟩, HW⟩)
       (have hq : (q, r) = y := by simpa using HG.out); subst hq; have hx := HL2.out; (have RW : Aside0 (Row32 wc gr Rj) := ⟨R3.out.below HW.out⟩); (have OW : Aside0 (Row32 wc go Oj) := ⟨O3.out.below HW.out⟩); (have DW : Aside0 (Row32 wc gd D) := ⟨D3.out.below HW.out⟩); (have BW : Aside0 (Below w.heap.size w wc) := ⟨below_step HB3.out HW.out⟩); (have HDL : Aside0 ((D.take b.length).length = b.length) := ⟨by have := HS.out; rw [List.length_take]; omega⟩)
       have HDA : Aside0 (∀ w', Row32 w' gd D → Aside32 w' gr (some ⟨gd, 0, none⟩) cd (D.take b.length)) := ⟨fun w' hw' => by
         have h1 := hw'.wa (by have := HS.out; omega) b.length (by have := HS.out; omega) (c := cd) z3
         exact ⟨h1.1, h1.2.1, fun ad e _ => by cases e; have := NE1.out; simp only; omega⟩⟩
       clear HW HG HGG; (obtain ⟨tb, htb⟩ : ∃ tb, ((takeTo Rj j (D.take b.length) q (b.length + 1)).1 != 0) = tb := ⟨_, rfl⟩); simp only [htb] at hx; have HTB2 := aM htb; have HX := aM hx; clear htb hx HL2; (have z1 : (0 : Int) ≤ (j : Int) := by omega); (have l1 : (j : Int) ≤ (j : Int) + b.length + 1 := by omega); (have l2 : (j : Int) + b.length + 1 ≤ (cr : Int) := by omega); cases tb
       · have hx := HX.out; simp only [Bool.false_eq_true, if_false, Option.some.injEq] at hx; subst hx; clear HX; (go_wp2_with (first | (go_at_call 143; refine (big_take.part2 gr j (j + b.length + 1 - j) b.length (b.length + 1) _ (some ⟨gd, 0, none⟩) cd Rj (D.take b.length) q false _ RW.out (by have := HRL.out; omega) (HDA.out _ DW.out) z3 HDL.out z3 HTB2.out).mono ?_; rintro e w5 ⟨rfl, ho, hr⟩; have O5 := aM ho; have R5 := aM hr; have B5 := aM (ho.below BW.out G1'.out); have hxo := (OW.out.only ho (by have := NE2.out; omega)).cell j (by have := HOL.out; omega); have hfo := (OW.out.only ho (by have := NE2.out; omega)).free j; have D5 := aM (DW.out.only ho (by have := NE1.out; omega)); have OO5 := aM (OW.out.only ho (by have := NE2.out; omega)); clear ho hr))); (go_roundg j); (case measure => have := HK.out; omega); (case rel => exact ⟨j, _, _, rfl, by omega, ⟨rfl⟩, HL, ⟨by rw [takeTo_len]; exact HRL.out⟩, ⟨by rw [List.length_set]; exact HOL.out⟩, ⟨R5.out.only ((Only.refl _ go).set_ _ _) (by have := NE2.out; omega)⟩, ⟨OO5.out.put _ _⟩, ⟨D5.out.only ((Only.refl _ go).set_ _ _) (by have := NE2.out; omega)⟩, ⟨below_set B5.out NE2.out.2.2⟩⟩)
       have hx := HX.out; simp only [if_true, Option.some.injEq] at hx; subst hx; clear HX; (go_wp2_with (first | (go_at_call 143; refine (big_take.part2 gr j (j + b.length + 1 - j) b.length (b.length + 1) _ (some ⟨gd, 0, none⟩) cd Rj (D.take b.length) q true _ RW.out (by have := HRL.out; omega) (HDA.out _ DW.out) z3 HDL.out z3 HTB2.out).mono ?_; rintro e w4 ⟨rfl, ho, hr⟩; have R4 := aM hr; have B4 := aM (ho.below BW.out G1'.out); have D4 := aM (DW.out.only ho (by have := NE1.out; omega)); have OO4 := aM (OW.out.only ho (by have := NE2.out; omega)); clear ho hr) | (go_at_call 144; refine (big_give.part2 gr j (j + b.length + 1 - j) b.length (b.length + 1) _ (some ⟨gd, 0, none⟩) cd (takeTo Rj j (D.take b.length) q (b.length + 1)).2.2 (D.take b.length) _ R4.out (by have := HRL.out; have := takeTo_len Rj j (D.take b.length) q (b.length + 1); omega) (HDA.out _ D4.out) z3 HDL.out z3).mono ?_; rintro e w5 ⟨rfl, ho, hr⟩; have R5 := aM hr; have B5 := aM (ho.below B4.out G1'.out); have hxo := (OO4.out.only ho (by have := NE2.out; omega)).cell j (by have := HOL.out; omega); have hfo := (OO4.out.only ho (by have := NE2.out; omega)).free j; have D5 := aM (D4.out.only ho (by have := NE1.out; omega)); have OO5 := aM (OO4.out.only ho (by have := NE2.out; omega)); clear ho hr))); (go_roundg j); (case measure => have := HK.out; omega); (case rel => exact ⟨j, _, _, rfl, by omega, ⟨rfl⟩, HL, ⟨by rw [giveTo_len, takeTo_len]; exact HRL.out⟩, ⟨by rw [List.length_set]; exact HOL.out⟩, ⟨R5.out.only ((Only.refl _ go).set_ _ _) (by have := NE2.out; omega)⟩, ⟨OO5.out.put _ _⟩, ⟨D5.out.only ((Only.refl _ go).set_ _ _) (by have := NE2.out; omega)⟩, ⟨below_set B5.out NE2.out.2.2⟩⟩)
end Go.Proofs.YtbanemecfobonaaDoor.B
end
section
namespace Go.Proofs.YtbanemecfobonaaDoor.B
open Go.RowKit Go.Proofs.YtbanemecfobonaaDoorW.PrintWords Go.Proofs.YtbanemecfobonaaDoorW.PrintLast Go.Proofs.YtbanemecfobonaaDoorW.PrintMore
set_option linter.unusedVariables false
set_option linter.unusedSimpArgs false
def div1To (a : List Int) (b0 : Int) : Nat → Int → List Int → Option (Int × List Int)
  | 0, rest, out => some (rest, out)
  | j + 1, rest, out =>
    if 0 ≤ Go.bits .or .u64 (IntKind.u64.wrap (rest * 4294967296)) (IntKind.u64.wrap (rd a (j : Int))) then
      div1To a b0 j (Go.bits .or .u64 (IntKind.u64.wrap (rest * 4294967296)) (IntKind.u64.wrap (rd a (j : Int))) % IntKind.u64.wrap b0)
        (out.set j (IntKind.u64.wrap (Int.tdiv (Go.bits .or .u64 (IntKind.u64.wrap (rest * 4294967296)) (IntKind.u64.wrap (rd a (j : Int)))) (IntKind.u64.wrap b0)) % 4294967296))
    else none
def div1 (k : Nat) (a b : List Int) : Option (List Int × List Int) :=
  if b.length = 1 ∧ a.length ≤ 1000 ∧ 0 < a.length ∧ 0 < IntKind.u64.wrap (rd b ((0 : Nat) : Int)) then
    (div1To a (rd b ((0 : Nat) : Int)) a.length 0 (List.replicate a.length 0)).bind fun s => (big_trim.f k s.2).bind fun q => (big_of.f k s.1).bind fun r => some (q, r)
  else none
def divG (k : Nat) (a b : List Int) : Option (List Int × List Int) :=
  (big_compare.f k a b).bind fun c => if c < 0 then divS k a b else (big_words_small.f a).bind fun x => if x.2 = true then divS k a b else if b.length = 1 then div1 k a b else long k a b
set_option maxHeartbeats 600000 in
set_option maxRecDepth 100000 in
theorem divG_ok (k : Nat) : DivOk (divG k) := by
  (intro A0 A1 c0 c1 l0 l1 q r w h0 h1 h); (unfold divG at h); (obtain ⟨c, hc, h⟩ := oB h); by_cases hlt : c < 0
  · rw [if_pos hlt] at h; (exact divS_ok k A0 A1 c0 c1 l0 l1 q r w h0 h1 h)
  rw [if_neg hlt] at h; (obtain ⟨⟨x, bx⟩, hx, h⟩ := oB h); (dsimp only at h); cases bx
  case true => rw [if_pos rfl] at h; (exact divS_ok k A0 A1 c0 c1 l0 l1 q r w h0 h1 h)
  rw [if_neg (by simp)] at h; have H0 := aM h0; have H1 := aM h1; have H0c := aM h0.2.1; have H1c := aM h1.2.1; have HC := aM hc; have HX := aM hx; (have t1 : decide (c < 0) = false := dF hlt); clear h0 h1 hc hx hlt; by_cases hb : l1.length = 1; rotate_left
  · rw [if_neg hb] at h; have HH := aM h; (have t2 : ((l1.length : Int) == 1) = false := by rw [beq_eq_false_iff_ne]; omega); clear h hb; (go_enter Tryd.func132, Tryd.ntmps132); (go_wp2_with (first | (go_at_call 105; (with_reducible refine (big_compare.calls k A0 c0 l0 A1 c1 l1 c _ ?q1 H0c.out ?q2 H1c.out HC.out).mono ?_); (case q1 => exact by repeat (first | exact H0.out.1 | refine Kd.C_drewN ?_ _)); (case q2 => exact by repeat (first | exact H1.out.1 | refine Kd.C_drewN ?_ _)); rintro e w1 ⟨rfl, ⟨nd, rfl⟩⟩) | (go_at_call 110; (with_reducible refine (big_words_small.calls A0 c0 l0 x false _ ?q1 H0c.out HX.out).mono ?_); (case q1 => exact by repeat (first | exact H0.out.1 | refine Kd.C_drewN ?_ _)); rintro e w1 ⟨rfl, ⟨nd1, rfl⟩⟩) | (go_at_call 140; (with_reducible refine (big_long.calls k A0 A1 c0 c1 l0 l1 q r _ ?q1 ?q2 HH.out).mono ?_); (case q1 => exact by repeat (first | exact H0.out | refine WA.drewN ?_ _)); (case q2 => exact by repeat (first | exact H1.out | refine WA.drewN ?_ _)); rintro e w5 ⟨Aq, cq, Ar, cr, rfl, ha1, ha2, hb⟩))); go_ret2; (exact ⟨_, _, _, _, rfl, ha1, ha2, ⟨hb.os, hb.tape, hb.output, hb.size, hb.block⟩⟩)
  rw [if_pos hb] at h; (unfold div1 at h); (split at h); (case isFalse => cases h); (rename_i hcond); obtain ⟨_, ha, ha0, hv0⟩ := hcond; (obtain ⟨S, hS, h⟩ := oB h); (obtain ⟨Q, hQ, h⟩ := oB h); (obtain ⟨T, hT, h⟩ := oB h); (obtain ⟨rfl, rfl⟩ := Prod.mk.inj (sI h)); have HS := aM hS; have HQ := aM hQ; have HT := aM hT; (obtain ⟨ad, e1, hy⟩ := Kd.at_int H1.out.1 ((0 : Nat) : Int) z3 z3); cases e1; (replace hy : w.cell? ad = some (.int .u32 (rd l1 ((0 : Nat) : Int))) := by simpa [Addr.add] using hy); have HY := aM hy; (obtain ⟨aa, e1, -⟩ := Kd.at_int H0.out.1 ((0 : Nat) : Int) z3 z3); cases e1; (generalize rd l1 ((0 : Nat) : Int) = b0 at HY HS hv0); (have t2 : (l1.length : Int) = 1 := by omega); have HV := aM hv0; have t2' := aM t2; clear hy hS hQ hT h hv0 t2; (have t3 : ((l1.length : Int) == 1) = true := by rw [t2'.out]; rfl); (have hl0 : (l0.length : Int) ≤ 9223372036854775807 := by omega); have HHB := aM hb
  have G1 : Aside0 (Calls Tryd.prog 105 #[.slice (some aa) l0.length c0, .slice (some ad) 1 c1] w fun e w' => e = .returned (.int .i64 c) ∧ Drawn0 w w') := ⟨by
    have := big_compare.calls k (some aa) c0 l0 (some ad) c1 l1 c w H0.out.1 H0.out.2.1 H1.out.1 H1.out.2.1 HC.out
    rw [hb] at this
    exact this⟩
  clear hb; (go_enter Tryd.func132, Tryd.ntmps132); (go_wp2_with (first | (go_at_call 105; (with_reducible refine G1.out.mono ?_); rintro e w1 ⟨rfl, ⟨nd, rfl⟩⟩) | (go_at_call 110; (with_reducible refine (big_words_small.calls _ c0 l0 x false _ ?q1 H0c.out HX.out).mono ?_); (case q1 => exact by repeat (first | exact H0.out.1 | refine Kd.C_drewN ?_ _)); rintro e w1 ⟨rfl, ⟨nd1, rfl⟩⟩) | ((with_reducible refine gate_dst (N := 42) rfl ?_); refine Kd.R_make (Kd.int .u32) _ 149 rfl (N := 42) rfl 119 _ _ rfl (l0.length : Int) rfl rfl Tryd.underlying119 (.int .u32 0) 4 info149 rfl z10 z3 0 (ok := fun _ => True) (okp := fun _ => True) rfl (fun _ hk => hk) trivial z3 z3 (Below.refl _ _) (Nat.le_refl _) ?_; intro vO w3 hO hb hg_ hnew_; clear hg_ hnew_; simp only [Int.toNat_natCast] at hO; obtain ⟨go, co, rfl, hco, hgo, hrow⟩ := Row32.of_R hO (by rw [List.length_replicate]; omega); rw [List.length_replicate]; rw [List.length_replicate] at hco; have b3 := aM hb; have O3 := aM hrow; have hgo := aM hgo; clear hb hO hrow))); (have HB3 : Aside0 (Below w.heap.size w w3) := ⟨⟨b3.out.os, b3.out.tape, b3.out.output, b3.out.size, b3.out.block⟩⟩); (have GO : Aside0 (w.heap.size ≤ go) := ⟨hgo.out⟩); (have HLO : Aside0 ((List.replicate l0.length (0 : Int)).length = l0.length) := ⟨List.length_replicate⟩); clear b3 hgo; (go_loopg [11, 12] l0.length (fun gk v11 v12 w' => ∃ (j : Nat) (rest : Int) (Oj : List Int), v11 = .int .u64 rest ∧ v12 = .int .i64 ((j : Int) - 1) ∧ j ≤ l0.length ∧ Aside0 (gk = j) ∧ Aside0 (div1To l0 b0 j rest Oj = some S) ∧ Aside0 (Oj.length = l0.length) ∧ Aside0 (Row32 w' go Oj) ∧ Aside0 (Below w.heap.size w w')))
  (case atStart => exact ⟨l0.length, 0, _, rfl, rfl, Nat.le_refl _, ⟨rfl⟩, HS, HLO, O3, HB3⟩)
  case round =>
   clear HS HLO O3 HB3; obtain ⟨j, rest, Oj, rfl, rfl, hj, HK, HT1, HOL, O3, HB3⟩ := hrel
   cases j with
   | zero =>
    (have hS : S = (rest, Oj) := by have := HT1.out; simp only [div1To, Option.some.injEq] at this; exact this.symm); subst hS; clear HT1; (go_wp2_with (first | (go_at_call 123; (with_reducible refine (big_trim.row2 k go co l0.length Oj Q _ O3.out HOL.out z3 z3 HQ.out).mono ?_); rintro e w7 ⟨rfl, ⟨m1, hm1, hr1⟩, rfl⟩; have M1 := aM (⟨hm1, hr1⟩ : _ ∧ _); clear hm1 hr1) | (go_at_call 103; refine (big_of.calls k rest T _ HT.out).mono ?_; rintro e w8 ⟨v, rfl, hv, hb⟩; obtain ⟨Ar, cr, rfl, hr⟩ := WA.of_R hv; clear hv; have AR := aM hr; have b5 := aM hb; clear hr hb))); go_ret2; obtain ⟨p1, p2⟩ := M1.out; (have w1 := O3.out.wa (by have := HOL.out; omega) m1 p1 (c := co) (by have := HOL.out; omega)); rw [← p2] at w1; (exact ⟨_, _, _, _, rfl, w1.below b5.out, AR.out, below_step HB3.out b5.out⟩)
   | succ j =>
    (have ej : (((j + 1 : Nat) : Int) - 1) = (j : Int) := by omega); rw [ej]; clear ej; have h := HT1.out; rw [div1To] at h; (split at h); (case isFalse => cases h); (rename_i hT0); (obtain ⟨a', e1, hx⟩ := Kd.at_int (Kd.C_below H0.out.1 HB3.out) (j : Int) z3 z3); cases e1; rw [Int.toNat_natCast] at hx; (have hy := (HB3.out.cell (World.block_lt_of_cell? _ _ HY.out)).trans HY.out); (have hy' : wr.cell? ad = some (.int .u32 b0) := hy); (generalize rd l0 (j : Int) = x at hx hT0 h); (have hxo := O3.out.cell j (by have := HOL.out; omega)); (have hfo := O3.out.free j); have hV := HV.out; have HN := aM h; (have hne : ad.block ≠ go := by have h1 := World.block_lt_of_cell? _ _ HY.out; have h2 := GO.out; omega); (have hy2 : (wr.setCell ⟨go, j, none⟩ (.int .u32 (IntKind.u64.wrap (Int.tdiv (Go.bits .or .u64 (IntKind.u64.wrap (rest * 4294967296)) (IntKind.u64.wrap x)) (IntKind.u64.wrap b0)) % 4294967296))).cell? ad = some (.int .u32 b0) := keep_cell ((KeepBut.refl wr go none).set_ j _) hy' hne); clear h HT1 hne; go_wp2; (go_roundg j); (case measure => have := HK.out; omega); (case rel => exact ⟨j, _, _, rfl, rfl, by omega, ⟨rfl⟩, HN, ⟨by rw [List.length_set]; exact HOL.out⟩, ⟨O3.out.put _ _⟩, ⟨below_set HB3.out GO.out⟩⟩)
end Go.Proofs.YtbanemecfobonaaDoor.B
end
