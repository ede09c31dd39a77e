/- Contracts: values of a polynomial, differences of neighbours, first differences; program and reference. -/
import Derived.Test.YtdfnclnjnmdboaaDoorPoly1
import Derived.Test.YtdfnclnjnmdboaaDoorRTab
import Derived.Test.YtdfnclnjnmdboaaDoorSapp
import Derived.Deep.RegionHeld3
import Derived.Outline
namespace Go.Proofs.YtdfnclnjnmdboaaDoor
set_option linter.unusedVariables false
open Go.RowKit

theorem madeP0 (w : World) : (w.alloc (.cells #[] 3)).ownsRow w.heap.size 3 1 (.slice (some ⟨w.heap.size, 0, none⟩) 0 0) 0 [] := World.ownsRow_made w #[] 0 (Nat.le_refl _) (by decide) rfl
theorem map_range_getD (xs : List Int) : (List.range xs.length).map (fun i => (.int .i64 (xs.getD i 0))) = xs.map (Value.int .i64) := by
  apply List.ext_getElem
  · simp
  · intro i h1 h2; simp at h1; simp [List.getD, h1]
theorem take_snoc_getD (xs : List Int) (k : Nat) (hk : k < xs.length) : xs.take (k + 1) = xs.take k ++ [xs.getD k 0] := by
  rw [List.take_add_one]; simp [List.getD, hk]

set_option maxRecDepth 20000 in
theorem c_l2Values (v : Value) (p : List Int) (f c : Nat) (w : World) (ha : RdI w v p) (hp : evalOk p) (hn : f + c ≤ 101) :
    Calls Tryd.prog 37 #[v, (.int .i64 ((f : Int))), (.int .i64 (1)), (.int .i64 ((c : Int)))] w (FreshI w (valsF p f c)) := by
  have ha0 := ha
  obtain ⟨a, cap, rfl, ha1⟩ := ha0
  clear ha1
  simp only [List.length_map] at ha ⊢
  have hs0 := madeP0 w
  have hB0 : Below w.heap.size w (w.alloc (.cells #[] 3)) := (Below.refl _ _).alloc (Nat.le_refl _) _
  go_enter Tryd.func37, Tryd.ntmps37
  go_wp2
  go_loopw [9, 10] (fun v i wr => ∃ k : Nat, k ≤ c ∧ i = .int .i64 k ∧ OwnI wr w.heap.size v (valsF p f k) ∧ Below w.heap.size w wr) (fun _ i _ => c - (intOf i).toNat)
  case atStart => exact ⟨0, by omega, rfl, hs0, hB0⟩
  case round =>
    obtain ⟨k, hk, rfl, ho, hB⟩ := hrel
    clear hs0 hB0
    by_cases hlt : k < c
    · have HS : Hid _ := valsF_succ p f k
      have hlen := valsF_len p f k
      obtain ⟨L, hL⟩ : ∃ L, valsF p f k = L := ⟨_, rfl⟩
      rw [hL] at ho hlen
      have HL : Hid (valsF p f (k + 1) = L ++ [evalP p (f + k)]) := by show _ = _; rw [HS.out, hL]
      clear hL HS
      have hl : L.length ≤ 101 := by omega
      have hfk : f + k ≤ 100 := by omega
      have hcast : (f : Int) + (k : Int) = ((f + k : Nat) : Int) := by push_cast; rfl
      have ha1 := ha.kept hB
      obtain ⟨m, hm⟩ : ∃ m, f + k = m := ⟨_, rfl⟩
      rw [hm] at HL hfk hcast
      have HC : Hid (∀ W, RdI W (.slice a p.length cap) p → Calls Tryd.prog 59 #[.slice a p.length cap, (.int .i64 ((f : Int) + (k : Int)))] W fun e w' => e = .returned (.int .i64 (evalP p m)) ∧ Below W.heap.size W w') := by
        show ∀ W, _
        intro W hW
        rw [hcast]
        exact c_l2Eval _ p m W hW hp hfk
      clear hm hlen ha hcast
      go_wp2_with fail
      refine (HC.out _ ha1).mono ?_
      rintro e w1 ⟨rfl, hB1⟩
      replace ho := ownsRow_kept_below ho hB1
      replace hB := bthen hB hB1
      have hBs := hB.size
      clear hB1
      go_wp2_with (at_builtin; refine app1 34 3 Tryd.underlying34 infoInt rfl (by decide) rfl _ _ rfl w.heap.size _ _ _ rfl ho rfl rfl ?c1 ?c2 ?_)
      case c1 => omega
      case c2 => exact hBs
      intro v' wn ho3 hg1
      have HO : Hid (OwnI wn w.heap.size v' (valsF p f (k + 1)) ∧ Below w.heap.size w wn) :=
        ⟨by rw [HL.out]; exact OwnI_snoc' rfl ho3, hB.grown hg1 hBs (fun j hj => (ho.lt j hj).1)⟩
      clear ho ho3 hg1 hB ha1
      go_wp2
      go_roundw
      case rel => exact ⟨k + 1, by omega, by go_num, HO.out.1, HO.out.2⟩
      case measure => simp [intOf]; omega
    · have HO : Hid (OwnI wr w.heap.size u9 (valsF p f c) ∧ Below w.heap.size w wr) := by
        have : k = c := by omega
        subst this
        exact ⟨ho, hB⟩
      clear ho hB ha
      go_wp2
      go_ret
      exact ⟨_, rfl, HO.out.1, HO.out.2⟩

/-- bounds within which neighbours can be subtracted -/
def bdI (xs : List Int) : Prop := ∀ i, -4000000000000000000 ≤ xs.getD i 0 ∧ xs.getD i 0 ≤ 4000000000000000000
theorem nxt_take_succ (xs : List Int) (k : Nat) (h : k + 1 < xs.length) : (nxt xs).take (k + 1) = (nxt xs).take k ++ [xs.getD (k + 1) 0 - xs.getD k 0] := by
  rw [take_snoc_getD _ _ (by rw [nxt_len]; omega), nxt_getD _ _ h]

theorem keepC {w wx : World} {b o o' : Nat} {v0 v1 : Value} (e0 : w.cell? ⟨b, o, none⟩ = some v0) (e1 : w.cell? ⟨b, o', none⟩ = some v1) (hb : b < w.heap.size) (hB : Below w.heap.size w wx) : Below w.heap.size w wx ∧ wx.cell? ⟨b, o, none⟩ = some v0 ∧ wx.cell? ⟨b, o', none⟩ = some v1 :=
  ⟨hB, by rw [(bcell hB).1 _ _ hb]; exact e0, by rw [(bcell hB).1 _ _ hb]; exact e1⟩
end Go.Proofs.YtdfnclnjnmdboaaDoor
