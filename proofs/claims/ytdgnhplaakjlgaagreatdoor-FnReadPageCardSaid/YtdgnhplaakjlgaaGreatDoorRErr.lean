/- Contracts: the greatest error of a rounded table, program and reference. -/
import Derived.Test.YtdgnhplaakjlgaaGreatDoorRTab
import Derived.Deep.RegionHeld3
import Derived.Deep.QuietTactic
import Derived.BigQuiet
import Derived.WalkSmall
import Derived.WalkLawsBesides
namespace Go.Proofs.YtdgnhplaakjlgaaGreatDoor
set_option linter.unusedVariables false
open Go.RowKit

theorem max3 (g dd : Int) : (if (if g < dd then dd else g) < -dd then -dd else if g < dd then dd else g) = max g (max dd (-dd)) := by
  (repeat' split) <;> omega
theorem max3b (g dd : Int) : (if g < if -dd < dd then dd else -dd then if -dd < dd then dd else -dd else g) = max g (max dd (-dd)) := by
  (repeat' split) <;> omega
theorem ret_int' {k : IntKind} {a b : Int} (h : a = b) : Value.int k a = Value.int k b := by rw [h]
/-- the greatest error of the first k entries, in units of p -/
def errS (xs : List Int) (p way : Int) : Nat → Int
  | 0 => 0
  | k + 1 => max (errS xs p way k) (max (xs.getD k 0 - rndF (xs.getD k 0) p way * p) (-(xs.getD k 0 - rndF (xs.getD k 0) p way * p)))
def errR (xs : List Int) (d way : Int) : Int := if rtB xs d way = true then errS xs (ten d.toNat) way xs.length else -1
theorem errS_bd {xs : List Int} {k n : Nat} {way : Int} (h : allIn xs 1000000000 = true) (hk : k ≤ xs.length) (hn : n ≤ 6) (hw0 : 0 ≤ way) (hw2 : way ≤ 2) : 0 ≤ errS xs (ten n) way k ∧ errS xs (ten n) way k ≤ 2001000000 := by
  induction k with
  | zero => simp [errS]
  | succ k ih =>
    have ih := ih (by omega)
    have hx := allIn_get h (show k < xs.length by omega)
    obtain ⟨hp1, hp6⟩ := ten6 hn
    obtain ⟨x, q, y, HX, HQ, HY, hq, g1, g2, g3, g4, g5, g6, g7, E⟩ := rnd_setup (way := way) hp1 hp6 hx.1 hx.2
    obtain ⟨f1, f2, f3, f4, f5⟩ := div_facts (p := ten n) hp1 hx.1 hx.2
    have e2 : q * ten n = xs.getD k 0 - x := by rw [← HQ.out, Int.mul_comm, ← f3, HX.out]
    have hr : rndF (xs.getD k 0) (ten n) way = q ∨ rndF (xs.getD k 0) (ten n) way = q + 1 := by
      rw [E.out]; (repeat' split) <;> simp
    have e3 : (q + 1) * ten n = xs.getD k 0 - x + ten n := by rw [Int.add_mul, e2]; omega
    unfold errS
    rcases hr with hr | hr
    · rw [hr, e2]; omega
    · rw [hr, e3]; omega
theorem err_entry {xs : List Int} {k n : Nat} {way : Int} (h : allIn xs 1000000000 = true) (hk : k < xs.length) (hn : n ≤ 6) (hw0 : 0 ≤ way) (hw2 : way ≤ 2) :
    ∃ t dd, rndF (xs.getD k 0) (ten n) way * ten n = t ∧ -1002000000 ≤ t ∧ t ≤ 1002000000 ∧ xs.getD k 0 - t = dd ∧ -1000000 ≤ dd ∧ dd ≤ 1000000 := by
  have hx := allIn_get h hk
  obtain ⟨hp1, hp6⟩ := ten6 hn
  obtain ⟨x, q, y, HX, HQ, HY, hq, g1, g2, g3, g4, g5, g6, g7, E⟩ := rnd_setup (way := way) hp1 hp6 hx.1 hx.2
  obtain ⟨f1, f2, f3, f4, f5⟩ := div_facts (p := ten n) hp1 hx.1 hx.2
  have e2 : q * ten n = xs.getD k 0 - x := by rw [← HQ.out, Int.mul_comm, ← f3, HX.out]
  have hr : rndF (xs.getD k 0) (ten n) way = q ∨ rndF (xs.getD k 0) (ten n) way = q + 1 := by
    rw [E.out]; (repeat' split) <;> simp
  have e3 : (q + 1) * ten n = xs.getD k 0 - x + ten n := by rw [Int.add_mul, e2]; omega
  refine ⟨rndF (xs.getD k 0) (ten n) way * ten n, xs.getD k 0 - rndF (xs.getD k 0) (ten n) way * ten n, rfl, ?_⟩
  rcases hr with hr | hr
  · rw [hr, e2]; exact ⟨by omega, by omega, rfl, by omega, by omega⟩
  · rw [hr, e3]; exact ⟨by omega, by omega, rfl, by omega, by omega⟩

set_option maxHeartbeats 400000 in
theorem c_impl_RoundError (v : Value) (xs : List Int) (d way : Int) (w : World) (ha : RdI w v xs) (hx : xs.length ≤ 1099511627776) :
    Calls Tryz.prog 18 #[v, (.int .i64 (d)), (.int .i64 (way))] w fun e w' => e = .returned (.int .i64 (errR xs d way)) ∧ Below w.heap.size w w' := by
  have ha0 := ha
  obtain ⟨a, cap, rfl, ha1⟩ := ha0
  clear ha1
  simp only [List.length_map] at ha ⊢
  by_cases hv : rtB xs d way = true
  · have E : Hid (errR xs d way = errS xs (ten d.toNat) way xs.length) := if_pos hv
    have EL : Hid (rtL xs d way = xs.map (fun n => rnd n d way)) := if_pos hv
    obtain ⟨h1, h2⟩ := rtB_iff hv
    obtain ⟨h3, h4, h5⟩ := tabB_iff h1
    obtain ⟨d0, d6, w0, w2⟩ := wayB_iff h2
    obtain ⟨n, rfl⟩ : ∃ n : Nat, d = n := ⟨d.toNat, by omega⟩
    have hn6 : n ≤ 6 := by omega
    have hn17 : n ≤ 17 := by omega
    have HV : Hid (rtB xs n way = true) := hv
    have H5 : Hid (allIn xs 1000000000 = true) := h5
    rw [Int.toNat_natCast] at E
    clear h1 h2 h5
    obtain ⟨L, hL⟩ : ∃ L, rtL xs n way = L := ⟨_, rfl⟩
    have HL : Hid (rtL xs n way = L) := hL
    have hLl : L.length = xs.length := by rw [← hL, EL.out]; simp
    have hLk : ∀ k, k < xs.length → L.getD k 0 = rndF (xs.getD k 0) (ten n) way := by
      intro k hk
      obtain ⟨_, _, _, r4⟩ := rnd_entry hv hk
      rw [← hL, EL.out]
      rw [Int.toNat_natCast] at r4
      rw [← r4]
      simp [List.getD, hk]
    have HLL : Hid (L.length = xs.length) := hLl
    have HLK : Hid (∀ k, k < xs.length → L.getD k 0 = rndF (xs.getD k 0) (ten n) way) := hLk
    obtain ⟨p, hp⟩ : ∃ p, ten n = p := ⟨_, rfl⟩
    have HP : Hid (ten n = p) := hp
    clear hL hLl hLk hp
    go_enter Tryz.func18, Tryz.ntmps18
    go_wp2_with fail
    refine (c_impl_RoundTable _ xs n way _ ha hx).mono ?_
    rintro e w1 ⟨v1, rfl, ho1, hB1⟩
    rw [HL.out] at ho1
    have hr1 := owns_RdI ho1
    have hr2 := hr1
    obtain ⟨a1, cap1, rfl, hr3⟩ := hr2
    clear hr3 ho1
    simp only [List.length_map] at hr1 ⊢
    go_wp2
    clear hv
    go_loopw [9, 24] (fun q i wr => ∃ k : Nat, k ≤ xs.length ∧ i = .int .i64 k ∧ q = .int .i64 (errS xs p way k) ∧ Below w1.heap.size w1 wr) (fun _ i _ => xs.length - (intOf i).toNat)
    case atStart => exact ⟨0, by omega, rfl, rfl, Below.refl _ _⟩
    case round =>
      obtain ⟨k, hk, rfl, rfl, hB⟩ := hrel
      by_cases hlt : k < xs.length
      · obtain ⟨b1, o1, rfl, hb1, e1⟩ := RdI_cell ha (bthen hB1 hB) hlt
        obtain ⟨b2, o2, rfl, hb2, e2⟩ := RdI_cell hr1 hB (k := k) (by rw [HLL.out]; exact hlt)
        rw [HLK.out k hlt] at e2
        obtain ⟨t, dd, t1, t2, t3, t4, t5, t6⟩ := err_entry H5.out hlt hn6 w0 w2
        obtain ⟨s1, s2⟩ := errS_bd (k := k) H5.out (by omega) hn6 w0 w2
        rw [HP.out] at e2 t1 s1 s2
        have HS : Hid (errS xs p way (k + 1) = max (errS xs p way k) (max dd (-dd))) := by
          show _ = _
          rw [errS, t1, t4]
        obtain ⟨x, hx1⟩ : ∃ x, xs.getD k 0 = x := ⟨_, rfl⟩
        rw [hx1] at e1 e2 t1 t4
        obtain ⟨m, hm1⟩ : ∃ m, rndF x p way = m := ⟨_, rfl⟩
        rw [hm1] at e2 t1
        obtain ⟨g, hg1⟩ : ∃ g, errS xs p way k = g := ⟨_, rfl⟩
        rw [hg1] at s1 s2 HS ⊢
        clear hx1 hm1 hg1 ha hr1
        have hpow : ∀ W : World, Calls Tryz.prog 52 #[(.int .i64 ((n : Int)))] W fun e W' => e = .returned (.int .i64 (p)) ∧ W' = W := fun W => by
          have h := c_powerOfTen n W hn17
          rw [HP.out] at h
          exact h.mono fun _ _ ⟨q1, q2⟩ => ⟨q1, q2.symm⟩
        have HPOW : Hid _ := hpow
        clear hpow
        have hkL : k < L.length := by rw [HLL.out]; exact hlt
        have i1 : (0 : Int) ≤ (k : Int) := by omega
        have i2 : (k : Int) < (L.length : Int) := by omega
        go_wp2
        go_quiet ((go_at_call 52; exact Calls.quiet_of_same (HPOW.out _)))
        go_wp2
        go_roundw
        case rel => exact ⟨k + 1, by omega, by go_num, ret_int' (by rw [HS.out]; exact max3 g dd), below_drewN hB _⟩
        case measure => simp [intOf]; omega
      · have HO : Hid (errR xs n way = errS xs p way k) := by
          have : k = xs.length := by omega
          show _ = _
          rw [E.out, HP.out, this]
        clear ha hr1
        go_wp2
        go_ret
        exact ⟨ret_int HO.out.symm, bthen hB1 hB⟩
  · have E : Hid (errR xs d way = -1) := if_neg hv
    have hv' : rtB xs d way = false := by simpa using hv
    clear hv
    go_enter Tryz.func18, Tryz.ntmps18
    go_wp2_with fail
    refine (c_impl_RoundTable _ xs d way _ ha hx).mono ?_
    rintro e w1 ⟨v1, rfl, ho1, hB1⟩
    go_wp2
    go_ret
    exact ⟨ret_int E.out.symm, hB1⟩
end Go.Proofs.YtdgnhplaakjlgaaGreatDoor
