/- Contracts: a shortened column, in the reference. -/
import Derived.Test.YthpchphncelkpaaDoorShort
import Derived.Test.YthpchphncelkpaaDoorSapp
namespace Go.Proofs.YthpchphncelkpaaDoor
set_option linter.unusedVariables false
open Go.RowKit

theorem keep2 {w1 wa wb : World} {b o o' : Nat} {v0 v1 : Value} (hb : b < w1.heap.size) (h : Below w1.heap.size w1 wa ∧ wa.cell? ⟨b, o, none⟩ = some v0 ∧ wa.cell? ⟨b, o', none⟩ = some v1) (k : Below wa.heap.size wa wb) :
    Below w1.heap.size w1 wb ∧ wb.cell? ⟨b, o, none⟩ = some v0 ∧ wb.cell? ⟨b, o', none⟩ = some v1 := by
  obtain ⟨h0, h1, h2⟩ := h
  have hs := h0.size
  obtain ⟨hc, _⟩ := bcell k
  exact ⟨bthen h0 k, by rw [hc _ _ (by omega)]; exact h1, by rw [hc _ _ (by omega)]; exact h2⟩
theorem keepW {w wx : World} {b o : Nat} {v0 : Value} (e0 : w.cell? ⟨b, o, none⟩ = some v0) (hb : b < w.heap.size) (hB : Below w.heap.size w wx) : Below w.heap.size w wx ∧ wx.cell? ⟨b, o, none⟩ = some v0 :=
  ⟨hB, by rw [(bcell hB).1 _ _ hb]; exact e0⟩
theorem slice_from (y : ByteArray) (n : Nat) (h : n ≤ y.size) (W : World) : (Instr.slice 9 (.string y) (some (.int .i64 (n : Int))) none none).run Tryd.prog W = .ok (.string (y.extract n y.size)) W := by
  rw [run_slice_string_from_if W 9 y .i64 n Tryd.underlying9, if_pos (by omega), Int.toNat_natCast]
theorem slice_fromT (y : ByteArray) (n : Nat) (h : n ≤ y.size) : ∃ T, (∀ W, (Instr.slice 9 (.string y) (some (.int .i64 (n : Int))) none none).run Tryd.prog W = .ok (.string T) W) ∧ T.size ≤ y.size ∧ IsS T (y.data.toList.drop n) := by
  refine ⟨_, slice_from y n h, by rw [ByteArray.size_extract]; omega, ?_⟩
  refine ((IsS.self y).ext n y.size).cast (List.take_of_length_le ?_)
  rw [List.length_drop, size_data]
  exact Nat.le_refl _
theorem add_str (a b : ByteArray) (h : a.size + b.size ≤ 9223372036854775807) (W : World) : (binOp .add 9 (.string a) (.string b)).run Tryd.prog W = .ok (.string (a ++ b)) W := by
  simp [binOp, run_string_add_sum W a b h]
theorem shoE_of {xs : List ByteArray} {k n : Nat} {y Y : ByteArray} (hy : xs.getD k noS = y) (hn : shoN xs k = n) (hY : IsS Y (List.replicate n 32)) {T : ByteArray} (hT : IsS T (y.data.toList.drop n)) : Y ++ T = shoE xs k := by
  refine IsS.inj ?_ (shoE_is xs k)
  refine (hY.app hT).cast ?_
  unfold shoL
  rw [hy, hn]
theorem range_map_succ {α : Type} (f : Nat → α) (k : Nat) : (List.range (k + 1)).map f = (List.range k).map f ++ [f k] := by
  rw [List.range_succ, List.map_append]; rfl

set_option maxRecDepth 4000 in
set_option maxHeartbeats 1600000 in
theorem c_spec_ShortenColumn (v : Value) (xs : List ByteArray) (w : World) (ha : RdS w v xs) (hx : xs.length ≤ 9223372036854775807) (hs : ∀ s ∈ xs, s.size ≤ 9223372036854775807) :
    Calls Tryd.prog 16 #[v] w (FreshS w (shorF xs)) := by
  have ha0 := ha
  obtain ⟨a, cap, rfl, ha1⟩ := ha0
  clear ha1
  simp only [List.length_map] at ha ⊢
  have hs0 := OwnS_made w w.heap.size (Nat.le_refl _)
  have HC : Hid (∀ W, Below w.heap.size w W → Calls Tryd.prog 53 #[.slice a xs.length cap] W fun e w' => e = .returned (.bool (colsB xs)) ∧ Below W.heap.size W w') := fun W hB => c_l6Digits _ xs W (ha.kept hB) hx hs
  cases hv : colsB xs
  · have E : Hid (shorF xs = []) := by show _ = _; unfold shorF; rw [hv]; rfl
    rw [hv] at HC
    by_cases hz : 0 < xs.length
    · go_enter Tryd.func16, Tryd.ntmps16
      go_wp2
      refine wp_loop_rounds 1 ?_
      rw [rounds_succ]
      go_wp2_with fail
      refine (HC.out _ ((Below.refl _ _).alloc (Nat.le_refl _) _)).mono ?_
      rintro e w1 ⟨rfl, hB1⟩
      go_wp2
      go_ret
      exact ⟨_, rfl, by rw [E.out]; exact ownsRow_kept_below hs0 hB1, balloc hB1⟩
    · obtain rfl : xs = [] := List.eq_nil_of_length_eq_zero (by omega)
      clear hv hz
      go_enter Tryd.func16, Tryd.ntmps16
      go_wp2
      refine wp_loop_rounds 1 ?_
      rw [rounds_succ]
      go_wp2
      go_ret
      exact ⟨_, rfl, by rw [E.out]; exact hs0, ((Below.refl _ _).alloc (Nat.le_refl _) _)⟩
  · obtain ⟨hx60, hall⟩ := colsB_iff hv
    have E : Hid (shorF xs = (List.range xs.length).map (shoE xs)) := by show _ = _; unfold shorF; rw [hv]; rfl
    rw [hv] at HC
    clear hv hs
    go_enter Tryd.func16, Tryd.ntmps16
    go_wp2
    go_loopw [3, 4] (fun v i wr => ∃ k : Nat, k ≤ xs.length ∧ i = .int .i64 k ∧ OwnS wr w.heap.size v ((List.range k).map (shoE xs)) ∧ Below w.heap.size w wr) (fun _ i _ => xs.length - (intOf i).toNat)
    case atStart => exact ⟨0, by omega, rfl, hs0, (Below.refl _ _).alloc (Nat.le_refl _) _⟩
    case round =>
      obtain ⟨k, hk, rfl, ho, hB⟩ := hrel
      by_cases hlt : k < xs.length
      · go_wp2_with fail
        refine (HC.out _ hB).mono ?_
        rintro e w1 ⟨rfl, hB1⟩
        replace ho := ownsRow_kept_below ho hB1
        replace hB := bthen hB hB1
        clear hB1
        obtain ⟨b1, o1, rfl, hb1, e0⟩ := RdS_cell ha (Below.refl _ _) hlt
        have e1 := (keepW e0 hb1 hB).2
        obtain ⟨hcy, hsy⟩ := hall (xs.getD k noS) (by simp [List.getD, hlt])
        obtain ⟨y, hy⟩ : ∃ y, xs.getD k noS = y := ⟨_, rfl⟩
        rw [hy] at e0 e1 hcy hsy
        obtain ⟨c1, c2, _⟩ := colB_iff hcy
        have i1 : (0 : Int) ≤ (k : Int) := by omega
        have i2 : (k : Int) < (xs.length : Int) := by omega
        have HY : Hid _ := hy
        clear hy hcy
        have hlt1 : b1 < w1.heap.size := by have := hB.size; omega
        obtain ⟨L, hL⟩ : ∃ L, (List.range k).map (shoE xs) = L := ⟨_, rfl⟩
        have hLl : L.length = k := by rw [← hL]; simp
        have HS : Hid ((List.range (k + 1)).map (shoE xs) = L ++ [shoE xs k]) := by show _ = _; rw [range_map_succ, hL]
        rw [hL] at ho
        clear hL
        by_cases hk0 : 0 < k
        · obtain ⟨_, _, he, _, e2⟩ := RdS_cell ha hB (show k - 1 < xs.length by omega)
          simp only [Option.some.injEq, Addr.mk.injEq] at he
          obtain ⟨rfl, rfl, _⟩ := he
          obtain ⟨_, hsz⟩ := hall (xs.getD (k - 1) noS) (by simp [List.getD, show k - 1 < xs.length by omega])
          obtain ⟨z, hz⟩ : ∃ z, xs.getD (k - 1) noS = z := ⟨_, rfl⟩
          rw [hz] at e2 hsz
          have hN : shoN xs k = shL y.data.toList z.data.toList := by unfold shoN; rw [if_neg (by omega), HY.out, hz]
          have hle := shL_le y.data.toList z.data.toList
          rw [size_data] at hle
          have HZ : Hid (shoN xs k = shL y.data.toList z.data.toList) := hN
          clear hz hN ha hs0
          have hzy : y.size ≤ z.size := by omega
          have hw : IntKind.i64.wrap ((k : Int) - 1) = ((k - 1 : Nat) : Int) := by rw [IntWalk.i64_in _ (by omega)]; omega
          have i3 : (0 : Int) ≤ ((k - 1 : Nat) : Int) := by omega
          have i4 : ((k - 1 : Nat) : Int) < (xs.length : Int) := by omega
          have hk0' : Below w1.heap.size w1 w1.drew ∧ w1.drew.cell? ⟨b1, o1 + k, none⟩ = some (.string y) ∧ w1.drew.cell? ⟨b1, o1 + (k - 1), none⟩ = some (.string z) := ⟨(Below.refl _ _).drew, e1, e2⟩
          go_wp2
          go_region_held3 (fun wx => Below w1.heap.size w1 wx ∧ wx.cell? ⟨b1, o1 + k, none⟩ = some (.string y) ∧ wx.cell? ⟨b1, o1 + (k - 1), none⟩ = some (.string z)) (first | assumption | exact hk0' | exact keep2 hlt1 (by assumption) (by assumption))
            (first | (go_at_call 54; refine (c_l6Shared y z _ hzy (by omega)).mono ?_; rintro e w2 ⟨rfl, hb2⟩))
          rename_i hS
          obtain ⟨hB2, e3, _⟩ := hS
          replace ho := ownsRow_kept_below ho hB2
          replace hB := bthen hB hB2
          have hlt2 : b1 < w2.heap.size := by have := hB2.size; omega
          obtain ⟨N, hN⟩ : ∃ N, shL y.data.toList z.data.toList = N := ⟨_, rfl⟩
          rw [hN] at hle HZ ⊢
          clear hw hk0' e1 e2 hN hB2 hb2 i3 i4
          have g1 : (0 : Int) ≤ (N : Int) := by omega
          have g2 : (N : Int) ≤ (y.size : Int) := by omega
          obtain ⟨T, g3, hTs, hT⟩ := slice_fromT y N (by omega)
          have hBs : w.heap.size ≤ w2.drew.heap.size := hB.size
          have hod : w2.drew.ownsRow w.heap.size 9 1 u3 L.length (L.map Value.string) := ho
          have hk1 := keepW (b := b1) (o := o1 + k) e0 hb1 hB.drew
          go_wp2
          go_region_held3 (fun wx => Below w.heap.size w wx ∧ wx.cell? ⟨b1, o1 + k, none⟩ = some (.string y)) (first | assumption | exact hk1 | exact keepW e0 hb1 ((hB.alloc hB.size _).drew) | exact keepW e0 hb1 (hB.drew.grown (by assumption) hBs (fun j hj => (hod.lt j hj).1)))
            (first
              | (refine sguard _ _ _ rfl ?_; refine sapp1 (w := w2.drew) 23 9 Tryd.underlying23 infoStr rfl (by decide) rfl _ _ rfl w.heap.size _ _ _ rfl rfl hod rfl rfl (by omega) hBs ?_; intro v' w3 ho3 hg3)
              | (go_at_call 55; refine (c_ManySp 32 _ _ (by omega)).mono ?_; rintro e w' ⟨Y, rfl, hY, rfl⟩; have hYs : Y.size ≤ 12 := (by rw [hY.size, List.length_replicate]; omega); have g5 : (9223372036854775807 < Y.size + T.size) = False := eq_false (by omega)))
          rename_i hS3
          have HO : Hid (OwnS w3 w.heap.size v' ((List.range (k + 1)).map (shoE xs)) ∧ Below w.heap.size w w3) := ⟨by rw [HS.out, ← shoE_of HY.out HZ.out hY hT]; exact OwnS_snoc rfl ho3, hS3.1⟩
          clear ho ho3 hg3 hS3 hB hk1 hod hY hT g3 g5 e0 hTs hYs
          go_wp2
          go_roundw
          case rel => exact ⟨k + 1, by omega, by go_num, HO.out.1, HO.out.2⟩
          case measure => simp [intOf]; omega
        · have hk00 : ¬ (0 : Int) < (k : Int) := by omega
          clear ha hs0
          have HZ : Hid (shoN xs k = 0) := by show _ = _; unfold shoN; rw [if_pos (by omega)]
          obtain ⟨T, g3, hTs, hT⟩ := slice_fromT y 0 (by omega)
          rw [show ((0 : Nat) : Int) = 0 from rfl] at g3
          have hBs : w.heap.size ≤ w1.drew.heap.size := hB.size
          have hod : w1.drew.ownsRow w.heap.size 9 1 u3 L.length (L.map Value.string) := ho
          have hk1 := keepW (b := b1) (o := o1 + k) e0 hb1 hB.drew
          go_wp2
          go_region_held3 (fun wx => Below w.heap.size w wx ∧ wx.cell? ⟨b1, o1 + k, none⟩ = some (.string y)) (first | assumption | exact hk1 | exact keepW e0 hb1 ((hB.alloc hB.size _).drew) | exact keepW e0 hb1 (hB.drew.grown (by assumption) hBs (fun j hj => (hod.lt j hj).1)))
            (first
              | (refine sguard _ _ _ rfl ?_; refine sapp1 (w := w1.drew) 23 9 Tryd.underlying23 infoStr rfl (by decide) rfl _ _ rfl w.heap.size _ _ _ rfl rfl hod rfl rfl (by omega) hBs ?_; intro v' w3 ho3 hg3)
              | (go_at_call 55; refine (c_ManySp 32 _ _ (by omega)).mono ?_; rintro e w' ⟨Y, rfl, hY, rfl⟩; have hYs : Y.size ≤ 12 := (by rw [hY.size, List.length_replicate]; omega); have g5 : (9223372036854775807 < Y.size + T.size) = False := eq_false (by omega)))
          rename_i hS3
          have HO : Hid (OwnS w3 w.heap.size v' ((List.range (k + 1)).map (shoE xs)) ∧ Below w.heap.size w w3) := ⟨by rw [HS.out, ← shoE_of HY.out HZ.out hY hT]; exact OwnS_snoc rfl ho3, hS3.1⟩
          clear ho ho3 hg3 hS3 hB hk1 hod hY hT g3 g5 e0 hTs hYs
          go_wp2
          go_roundw
          case rel => exact ⟨k + 1, by omega, by go_num, HO.out.1, HO.out.2⟩
          case measure => simp [intOf]; omega
      · have HO : Hid (OwnS wr w.heap.size u3 (shorF xs) ∧ Below w.heap.size w wr) := by
          have : k = xs.length := by omega
          subst this
          exact ⟨by rw [E.out]; exact ho, hB⟩
        clear ho hB ha hs0
        go_wp2
        go_ret
        exact ⟨_, rfl, HO.out.1, HO.out.2⟩
end Go.Proofs.YthpchphncelkpaaDoor
