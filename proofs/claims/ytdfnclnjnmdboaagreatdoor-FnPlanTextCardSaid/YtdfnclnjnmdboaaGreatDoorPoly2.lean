/- Contracts: values of a polynomial, differences of neighbours, first differences; program and reference. -/
import Derived.Test.YtdfnclnjnmdboaaGreatDoorPoly1
import Derived.Test.YtdfnclnjnmdboaaGreatDoorRTab
import Derived.Test.YtdfnclnjnmdboaaGreatDoorSapp
import Derived.Deep.RegionHeld3
import Derived.Outline
namespace Go.Proofs.YtdfnclnjnmdboaaGreatDoor
set_option linter.unusedVariables false
open Go.RowKit

theorem madeP0 (w : World) : (w.alloc (.cells #[] 3)).ownsRow w.heap.size 3 1 (.slice (some ⟨w.heap.size, 0, none⟩) 0 0) 0 [] := World.ownsRow_made w #[] 0 (Nat.le_refl _) (by decide) rfl
theorem map_range_getD (xs : List Int) : (List.range xs.length).map (fun i => (.int .i64 (xs.getD i 0))) = xs.map (Value.int .i64) := by
  apply List.ext_getElem
  · simp
  · intro i h1 h2; simp at h1; simp [List.getD, h1]
theorem take_snoc_getD (xs : List Int) (k : Nat) (hk : k < xs.length) : xs.take (k + 1) = xs.take k ++ [xs.getD k 0] := by
  rw [List.take_add_one]; simp [List.getD, hk]

set_option maxRecDepth 20000 in
theorem c_l2Values (v : Value) (p : List Int) (f c : Nat) (w : World) (ha : RdI w v p) (hp : evalOk p) (hn : f + c ≤ 101) :
    Calls Tryz.prog 64 #[v, (.int .i64 ((f : Int))), (.int .i64 (1)), (.int .i64 ((c : Int)))] w (FreshI w (valsF p f c)) := by
  have ha0 := ha
  obtain ⟨a, cap, rfl, ha1⟩ := ha0
  clear ha1
  simp only [List.length_map] at ha ⊢
  have hs0 := madeP0 w
  have hB0 : Below w.heap.size w (w.alloc (.cells #[] 3)) := (Below.refl _ _).alloc (Nat.le_refl _) _
  go_enter Tryz.func64, Tryz.ntmps64
  go_wp2
  go_loopw [9, 10] (fun v i wr => ∃ k : Nat, k ≤ c ∧ i = .int .i64 k ∧ OwnI wr w.heap.size v (valsF p f k) ∧ Below w.heap.size w wr) (fun _ i _ => c - (intOf i).toNat)
  case atStart => exact ⟨0, by omega, rfl, hs0, hB0⟩
  case round =>
    obtain ⟨k, hk, rfl, ho, hB⟩ := hrel
    clear hs0 hB0
    by_cases hlt : k < c
    · have HS : Hid _ := valsF_succ p f k
      have hlen := valsF_len p f k
      obtain ⟨L, hL⟩ : ∃ L, valsF p f k = L := ⟨_, rfl⟩
      rw [hL] at ho hlen
      have HL : Hid (valsF p f (k + 1) = L ++ [evalP p (f + k)]) := by show _ = _; rw [HS.out, hL]
      clear hL HS
      have hl : L.length ≤ 101 := by omega
      have hfk : f + k ≤ 100 := by omega
      have hcast : (f : Int) + (k : Int) = ((f + k : Nat) : Int) := by push_cast; rfl
      have ha1 := ha.kept hB
      obtain ⟨m, hm⟩ : ∃ m, f + k = m := ⟨_, rfl⟩
      rw [hm] at HL hfk hcast
      have HC : Hid (∀ W, RdI W (.slice a p.length cap) p → Calls Tryz.prog 98 #[.slice a p.length cap, (.int .i64 ((f : Int) + (k : Int)))] W fun e w' => e = .returned (.int .i64 (evalP p m)) ∧ Below W.heap.size W w') := by
        show ∀ W, _
        intro W hW
        rw [hcast]
        exact c_l2Eval _ p m W hW hp hfk
      clear hm hlen ha hcast
      go_wp2_with fail
      refine (HC.out _ ha1).mono ?_
      rintro e w1 ⟨rfl, hB1⟩
      replace ho := ownsRow_kept_below ho hB1
      replace hB := bthen hB hB1
      have hBs := hB.size
      clear hB1
      go_wp2_with (at_builtin; refine app1 32 3 Tryz.underlying32 infoInt rfl (by decide) rfl _ _ rfl w.heap.size _ _ _ rfl ho rfl rfl ?c1 ?c2 ?_)
      case c1 => omega
      case c2 => exact hBs
      intro v' wn ho3 hg1
      have HO : Hid (OwnI wn w.heap.size v' (valsF p f (k + 1)) ∧ Below w.heap.size w wn) :=
        ⟨by rw [HL.out]; exact OwnI_snoc' rfl ho3, hB.grown hg1 hBs (fun j hj => (ho.lt j hj).1)⟩
      clear ho ho3 hg1 hB ha1
      go_wp2
      go_roundw
      case rel => exact ⟨k + 1, by omega, by go_num, HO.out.1, HO.out.2⟩
      case measure => simp [intOf]; omega
    · have HO : Hid (OwnI wr w.heap.size u9 (valsF p f c) ∧ Below w.heap.size w wr) := by
        have : k = c := by omega
        subst this
        exact ⟨ho, hB⟩
      clear ho hB ha
      go_wp2
      go_ret
      exact ⟨_, rfl, HO.out.1, HO.out.2⟩

/-- bounds within which neighbours can be subtracted -/
def bdI (xs : List Int) : Prop := ∀ i, -4000000000000000000 ≤ xs.getD i 0 ∧ xs.getD i 0 ≤ 4000000000000000000
theorem nxt_take_succ (xs : List Int) (k : Nat) (h : k + 1 < xs.length) : (nxt xs).take (k + 1) = (nxt xs).take k ++ [xs.getD (k + 1) 0 - xs.getD k 0] := by
  rw [take_snoc_getD _ _ (by rw [nxt_len]; omega), nxt_getD _ _ h]

theorem keepC {w wx : World} {b o o' : Nat} {v0 v1 : Value} (e0 : w.cell? ⟨b, o, none⟩ = some v0) (e1 : w.cell? ⟨b, o', none⟩ = some v1) (hb : b < w.heap.size) (hB : Below w.heap.size w wx) : Below w.heap.size w wx ∧ wx.cell? ⟨b, o, none⟩ = some v0 ∧ wx.cell? ⟨b, o', none⟩ = some v1 :=
  ⟨hB, by rw [(bcell hB).1 _ _ hb]; exact e0, by rw [(bcell hB).1 _ _ hb]; exact e1⟩
set_option maxRecDepth 20000 in
theorem c_l2Next (v : Value) (xs : List Int) (w : World) (ha : RdI w v xs) (hx : xs.length ≤ 1000) (hb : bdI xs) :
    Calls Tryz.prog 143 #[v] w (FreshI w (nxt xs)) := by
  have ha0 := ha
  obtain ⟨a, cap, rfl, ha1⟩ := ha0
  clear ha1
  simp only [List.length_map] at ha ⊢
  have hs0 := madeP0 w
  have hB0 : Below w.heap.size w (w.alloc (.cells #[] 3)) := (Below.refl _ _).alloc (Nat.le_refl _) _
  have hnl := nxt_len xs
  go_enter Tryz.func143, Tryz.ntmps143
  go_wp2
  go_loopw [3, 4] (fun v i wr => ∃ k : Nat, k ≤ xs.length - 1 ∧ i = .int .i64 k ∧ OwnI wr w.heap.size v ((nxt xs).take k) ∧ Below w.heap.size w wr) (fun _ i _ => xs.length - (intOf i).toNat)
  case atStart => exact ⟨0, by omega, rfl, hs0, hB0⟩
  case round =>
    obtain ⟨k, hk, rfl, ho, hB⟩ := hrel
    clear hs0 hB0
    by_cases hlt : k + 1 < xs.length
    · obtain ⟨b1, o1, rfl, hb1, e1⟩ := RdI_cell ha hB (k := k) (by omega)
      obtain ⟨_, _, he, _, e2⟩ := RdI_cell ha hB (k := k + 1) hlt
      simp only [Option.some.injEq, Addr.mk.injEq] at he
      obtain ⟨rfl, rfl, _⟩ := he
      obtain ⟨_, _, he, _, e0⟩ := RdI_cell ha (Below.refl _ _) (k := k) (by omega)
      simp only [Option.some.injEq, Addr.mk.injEq] at he
      obtain ⟨rfl, rfl, _⟩ := he
      obtain ⟨_, _, he, _, e0'⟩ := RdI_cell ha (Below.refl _ _) (k := k + 1) hlt
      simp only [Option.some.injEq, Addr.mk.injEq] at he
      obtain ⟨rfl, rfl, _⟩ := he
      obtain ⟨x1, x2⟩ := hb k
      obtain ⟨y1, y2⟩ := hb (k + 1)
      have HN : Hid _ := nxt_take_succ xs k hlt
      obtain ⟨x, hx1⟩ : ∃ x, xs.getD k 0 = x := ⟨_, rfl⟩
      obtain ⟨y, hy1⟩ : ∃ y, xs.getD (k + 1) 0 = y := ⟨_, rfl⟩
      have hlen : ((nxt xs).take k).length ≤ 1000 := by rw [List.length_take]; omega
      obtain ⟨L, hL⟩ : ∃ L, (nxt xs).take k = L := ⟨_, rfl⟩
      rw [hx1] at e1 e0 x1 x2
      rw [hy1] at e2 e0' y1 y2
      rw [hL] at ho hlen
      have HL : Hid ((nxt xs).take (k + 1) = L ++ [y - x]) := by show _ = _; rw [HN.out, hL, hx1, hy1]
      clear HN hx1 hy1 hL ha hb hnl
      have i1 : (0 : Int) ≤ (k : Int) := by omega
      have i2 : (k : Int) < (xs.length : Int) := by omega
      have i3 : (0 : Int) ≤ (k : Int) + 1 := by omega
      have i4 : (k : Int) + 1 < (xs.length : Int) := by omega
      have g0 : ((k : Int) + 1).toNat = k + 1 := by omega
      have g1 : IntKind.i64.wrap ((k : Int) + 1) = (k : Int) + 1 := IntWalk.i64_in _ (by omega)
      have g2 : IntKind.i64.wrap (y - x) = y - x := IntWalk.i64_in _ (by omega)
      have hBs : w.heap.size ≤ wr.drew.heap.size := hB.size
      have hod : wr.drew.ownsRow w.heap.size 3 1 u3 L.length (L.map (Value.int .i64)) := ho
      go_wp2
      have hk0 : Below w.heap.size w wr.drew ∧ wr.drew.cell? ⟨b1, o1 + k, none⟩ = some (.int .i64 (x)) ∧ wr.drew.cell? ⟨b1, o1 + (k + 1), none⟩ = some (.int .i64 (y)) := ⟨hB.drew, e1, e2⟩
      go_region_held3 (fun wx => Below w.heap.size w wx ∧ wx.cell? ⟨b1, o1 + k, none⟩ = some (.int .i64 (x)) ∧ wx.cell? ⟨b1, o1 + (k + 1), none⟩ = some (.int .i64 (y))) (first | assumption | exact hk0 | exact keepC e0 e0' hb1 ((hB.alloc hB.size _).drew) | exact keepC e0 e0' hb1 (hB.drew.grown (by assumption) hBs (fun j hj => (hod.lt j hj).1)))
        ((refine sguard _ _ _ rfl ?_; refine sapp1 (w := wr.drew) 32 3 Tryz.underlying32 infoInt rfl (by decide) rfl _ _ rfl w.heap.size _ _ _ rfl rfl hod rfl rfl (by omega) hBs ?_; intro v' w3 ho3 hg3))
      have HO : Hid (OwnI w3 w.heap.size v' ((nxt xs).take (k + 1)) ∧ Below w.heap.size w w3) :=
        ⟨by rw [HL.out]; exact OwnI_snoc' rfl ho3, hB.drew.grown hg3 hBs (fun j hj => (hod.lt j hj).1)⟩
      clear ho ho3 hg3 hod g0 g1 g2 i3 i4 e1 e2 e0 e0' hk0
      go_wp2
      go_roundw
      case rel => exact ⟨k + 1, by omega, by go_num, HO.out.1, HO.out.2⟩
      case measure => simp [intOf]; omega
    · have HO : Hid (OwnI wr w.heap.size u3 (nxt xs) ∧ Below w.heap.size w wr) := by
        rw [List.take_of_length_le (by rw [hnl]; omega)] at ho
        exact ⟨ho, hB⟩
      have g3 : ¬ ((k : Int) + 1 < (xs.length : Int)) := by omega
      clear ho hB ha hb hnl
      go_wp2
      go_ret
      exact ⟨_, rfl, HO.out.1, HO.out.2⟩

set_option maxRecDepth 20000 in
theorem c_neighbors (v : Value) (xs : List Int) (w : World) (ha : RdI w v xs) (hx : xs.length ≤ 1000) (hb : bdI xs) :
    Calls Tryz.prog 94 #[v] w (FreshI w (nxt xs)) := by
  have ha0 := ha
  obtain ⟨a, cap, rfl, ha1⟩ := ha0
  clear ha1
  simp only [List.length_map] at ha ⊢
  have hnl := nxt_len xs
  by_cases h2 : xs.length < 2
  · have E : Hid (nxt xs = []) := List.eq_nil_of_length_eq_zero (by omega)
    clear hnl hb
    go_enter Tryz.func94, Tryz.ntmps94
    go_wp2
    go_ret
    exact ⟨_, rfl, by rw [E.out]; exact World.ownsRow_nil _ _ _ _, Below.refl _ _⟩
  · obtain ⟨n, hn⟩ : ∃ n, xs.length = n + 1 := ⟨xs.length - 1, by omega⟩
    have hnl' : (nxt xs).length = n := by omega
    rw [hn] at ha ⊢
    have HN : Hid (xs.length = n + 1) := hn
    have HNL : Hid _ := hnl'
    have hn1 : 1 ≤ n := by omega
    have hn2 : n ≤ 999 := by omega
    clear hn hnl hnl' h2
    go_enter Tryz.func94, Tryz.ntmps94
    go_wp2_with (at_make; refine mkfull 32 3 Tryz.underlying32 infoInt rfl (by decide) rfl _ _ rfl n rfl rfl ?ca ?cc ?cb ?_)
    case ca => omega
    case cc => omega
    case cb => omega
    intro w2 ho2 hB2 hz2
    go_wp2
    go_loopw [14] (fun i wr => ∃ k : Nat, k ≤ n ∧ i = .int .i64 k ∧ wr.ownsRow w.heap.size 3 1 (.slice (some ⟨w.heap.size, 0, none⟩) n n) n (fill (fun i => (.int .i64 ((nxt xs).getD i 0))) (.int .i64 (0)) k n) ∧ Below w.heap.size w wr) (fun i _ => n - (intOf i).toNat)
    case atStart => exact ⟨0, by omega, rfl, by rw [fill_zero]; exact ho2, hB2⟩
    case round =>
      obtain ⟨k, hk, rfl, ho, hB⟩ := hrel
      clear ho2 hB2 hz2
      by_cases hlt : k < n
      · obtain ⟨b1, o1, rfl, hb1, e1⟩ := RdI_cell ha hB (k := k) (by rw [HN.out]; omega)
        obtain ⟨_, _, he, _, e2⟩ := RdI_cell ha hB (k := k + 1) (by rw [HN.out]; omega)
        simp only [Option.some.injEq, Addr.mk.injEq] at he
        obtain ⟨rfl, rfl, _⟩ := he
        obtain ⟨_, _, he, _, e0⟩ := RdI_cell ha (Below.refl _ _) (k := k) (by rw [HN.out]; omega)
        simp only [Option.some.injEq, Addr.mk.injEq] at he
        obtain ⟨rfl, rfl, _⟩ := he
        obtain ⟨_, _, he, _, e0'⟩ := RdI_cell ha (Below.refl _ _) (k := k + 1) (by rw [HN.out]; omega)
        simp only [Option.some.injEq, Addr.mk.injEq] at he
        obtain ⟨rfl, rfl, _⟩ := he
        obtain ⟨x1, x2⟩ := hb k
        obtain ⟨y1, y2⟩ := hb (k + 1)
        have hg := nxt_getD xs k (by rw [HN.out]; omega)
        obtain ⟨⟨z, e3⟩, e4, ho3⟩ := fill_step ho hlt
        obtain ⟨x, hx1⟩ : ∃ x, xs.getD k 0 = x := ⟨_, rfl⟩
        obtain ⟨y, hy1⟩ : ∃ y, xs.getD (k + 1) 0 = y := ⟨_, rfl⟩
        rw [hx1] at e1 e0 x1 x2 hg
        rw [hy1] at e2 e0' y1 y2 hg
        have hBd := hB.drew
        simp only [hg] at ho3
        have HO : Hid (_ ∧ _) := ⟨ho3, hB.setCell (p := ⟨w.heap.size, k, none⟩) (Nat.le_refl _) (.int .i64 (y - x))⟩
        clear hx1 hy1 hg ho ho3 hB ha hb
        have i1 : (0 : Int) ≤ (k : Int) := by omega
        have i2 : (k : Int) < (n : Int) := by omega
        have i3 : (0 : Int) ≤ (k : Int) + 1 := by omega
        have i4 : (k : Int) + 1 < (n : Int) + 1 := by omega
        have i5 : (k : Int) < (n : Int) + 1 := by omega
        have g0 : ((k : Int) + 1).toNat = k + 1 := by omega
        have g1 : IntKind.i64.wrap ((k : Int) + 1) = (k : Int) + 1 := IntWalk.i64_in _ (by omega)
        have g2 : IntKind.i64.wrap (y - x) = y - x := IntWalk.i64_in _ (by omega)
        go_wp2
        go_region_held3 (fun wx => Below w.heap.size w wx ∧ wx.cell? ⟨b1, o1 + k, none⟩ = some (.int .i64 (x)) ∧ wx.cell? ⟨b1, o1 + (k + 1), none⟩ = some (.int .i64 (y))) (first | assumption | exact keepC e0 e0' hb1 hBd | exact keepC e0 e0' hb1 (hBd.setCell (p := ⟨w.heap.size, k, none⟩) (Nat.le_refl _) _)) (fail)
        clear g0 g1 g2 i3 i4 i5 e1 e2 e0 e0' hBd
        go_wp2
        go_roundw
        case rel => exact ⟨k + 1, by omega, by go_num, HO.out.1, HO.out.2.drew⟩
        case measure => simp [intOf]; omega
      · have HO : Hid (OwnI wr w.heap.size (.slice (some ⟨w.heap.size, 0, none⟩) n n) (nxt xs) ∧ Below w.heap.size w wr) := by
          have : k = n := by omega
          subst this
          have hnl := HNL.out
          subst hnl
          rw [fill_end, map_range_getD] at ho
          exact ⟨ho, hB⟩
        clear ho hB ha hb
        go_wp2
        go_ret
        exact ⟨_, rfl, HO.out.1, HO.out.2⟩
end Go.Proofs.YtdfnclnjnmdboaaGreatDoor
