/- Lemmas and contracts for WholePlan (Poly1 Poly2): plain words on memory, contracts of the functions that the law reaches. No condition but what each states. -/
import Derived.Test.YtdfnclnjnmdboaaGreatDoorMWholePlanTab
import Derived.Test.YtdfnclnjnmdboaaGreatDoorPolyP
import Derived.Test.YtdfnclnjnmdboaaGreatDoorMWholePlanSapp
import Derived.Deep.RegionHeld3
import Derived.Outline
namespace Go.Proofs.YtdfnclnjnmdboaaGreatDoor
set_option linter.unusedVariables false
open Go.RowKit

theorem bino_ch {n k : Nat} (hn : n ≤ 100) (hk : k ≤ 5) : 0 ≤ bino n k * ((n : Int) - (k : Int)) ∧ bino n k * ((n : Int) - (k : Int)) ≤ 10000000000000 ∧ (bino n k * ((n : Int) - (k : Int))) / ((k : Int) + 1) = bino n (k + 1) := by
  have h := bino_step n k
  obtain ⟨b1, b2⟩ := bino_bd (k := k + 1) hn (by omega)
  rw [← h]
  refine ⟨Int.mul_nonneg b1 (by omega), ?_, Int.mul_ediv_cancel _ (by omega)⟩
  have : bino n (k + 1) * ((k : Int) + 1) ≤ bino n (k + 1) * 6 := Int.mul_le_mul_of_nonneg_left (by omega) b1
  omega

set_option maxRecDepth 20000 in
theorem c_choose (n k : Nat) (w : World) (hn : n ≤ 100) (hk : k ≤ 6) :
    Calls Tryz.prog 127 #[(.int .i64 ((n : Int))), (.int .i64 ((k : Int)))] w fun e w' => e = .returned (.int .i64 (bino n k)) ∧ w = w' := by
  go_enter Tryz.func127, Tryz.ntmps127
  go_wp2
  go_loop [5, 8] (fun p i => ∃ j : Nat, j ≤ k ∧ i = .int .i64 j ∧ p = .int .i64 (bino n j)) (fun _ i => k - (intOf i).toNat)
  case atStart => exact ⟨0, by omega, rfl, by rw [bino_zero]⟩
  case round =>
    obtain ⟨j, hj, rfl, rfl⟩ := hrel
    by_cases hlt : j < k
    · obtain ⟨h1, h2, h3⟩ := bino_ch (k := j) hn (by omega)
      have hz : ((j : Int) + 1 = 0) = False := eq_false (by omega)
      have e : Hid _ := h3
      clear h3
      go_wp2
      go_round
      case rel => exact ⟨j + 1, by omega, by go_num, by rw [e.out]⟩
      case measure => simp [intOf]; omega
    · have e : Hid (bino n k = bino n j) := by have : j = k := by omega
                                               subst this; rfl
      go_wp2
      go_ret
      exact ⟨ret_int e.out.symm, rfl⟩

set_option maxRecDepth 20000 in
theorem c_l2Choose (n k : Nat) (w : World) (hn : n ≤ 100) (hk : k ≤ 6) :
    Calls Tryz.prog 126 #[(.int .i64 ((n : Int))), (.int .i64 ((k : Int)))] w fun e w' => e = .returned (.int .i64 (bino n k)) ∧ w = w' := by
  go_enter Tryz.func126, Tryz.ntmps126
  go_wp2
  go_loop [5, 6] (fun p i => ∃ j : Nat, j ≤ k ∧ i = .int .i64 j ∧ p = .int .i64 (bino n j)) (fun _ i => k - (intOf i).toNat)
  case atStart => exact ⟨0, by omega, rfl, by rw [bino_zero]⟩
  case round =>
    obtain ⟨j, hj, rfl, rfl⟩ := hrel
    by_cases hlt : j < k
    · obtain ⟨h1, h2, h3⟩ := bino_ch (k := j) hn (by omega)
      have hz : ((j : Int) + 1 = 0) = False := eq_false (by omega)
      have e : Hid _ := h3
      clear h3
      go_wp2
      go_round
      case rel => exact ⟨j + 1, by omega, by go_num, by rw [e.out]⟩
      case measure => simp [intOf]; omega
    · have e : Hid (bino n k = bino n j) := by have : j = k := by omega
                                               subst this; rfl
      go_wp2
      go_ret
      exact ⟨ret_int e.out.symm, rfl⟩

/-- valid differences -/
def polyB (p : List Int) : Bool := inB p.length 1 7 && allIn p 100000
theorem polyB_iff {p : List Int} (h : polyB p = true) : 1 ≤ p.length ∧ p.length ≤ 7 ∧ allIn p 100000 = true := by
  unfold polyB at h
  rw [Bool.and_eq_true] at h
  have := inB_iff.1 h.1
  exact ⟨by omega, by omega, h.2⟩
theorem allIn_mem {xs : List Int} {b : Int} (h : allIn xs b = true) : ∀ x ∈ xs, -b ≤ x ∧ x ≤ b := fun x hx => inB_iff.1 (List.all_eq_true.1 h x hx)
theorem allIn_of {xs : List Int} {b : Int} (h : ∀ x ∈ xs, -b ≤ x ∧ x ≤ b) : allIn xs b = true := List.all_eq_true.2 fun x hx => inB_iff.2 (h x hx)
theorem polyB_of {p : List Int} (h1 : 1 ≤ p.length) (h2 : p.length ≤ 7) (h : ∀ x ∈ p, -100000 ≤ x ∧ x ≤ 100000) : polyB p = true := by
  unfold polyB; rw [inB_t (by omega) (by omega), allIn_of h]; rfl
/-- small enough to be evaluated -/
def evalOk (p : List Int) : Prop := p.length ≤ 7 ∧ ∀ x ∈ p, -100000 ≤ x ∧ x ≤ 100000
theorem polyB_ok {p : List Int} (h : polyB p = true) : evalOk p := ⟨(polyB_iff h).2.1, allIn_mem (polyB_iff h).2.2⟩
theorem evalOk.take {p : List Int} (h : evalOk p) (k : Nat) : evalOk (p.take k) := ⟨by have := h.1; simp; omega, fun x hx => h.2 x (List.mem_of_mem_take hx)⟩
theorem evalOk.drop {p : List Int} (h : evalOk p) (k : Nat) : evalOk (p.drop k) := ⟨by have := h.1; simp; omega, fun x hx => h.2 x (List.mem_of_mem_drop hx)⟩
theorem evalOk.bd {p : List Int} (h : evalOk p) {n : Nat} (hn : n ≤ 100) : -743064105420700000 ≤ evalP p n ∧ evalP p n ≤ 743064105420700000 := evalP_bd hn h.1 h.2
theorem evalOk.get {p : List Int} (h : evalOk p) (k : Nat) : -100000 ≤ p.getD k 0 ∧ p.getD k 0 ≤ 100000 := by
  by_cases hk : k < p.length
  · exact h.2 _ (by simp [List.getD, hk])
  · simp [List.getD, Nat.le_of_not_lt hk]
/-- what a round of an evaluation wants -/
theorem ev_round {p : List Int} {n k : Nat} (h : evalOk p) (hn : n ≤ 100) (hk : k < p.length) : -100000000000000000 * 2 ≤ p.getD k 0 * bino n k ∧ p.getD k 0 * bino n k ≤ 100000000000000000 * 2 ∧ evalP (p.take (k + 1)) n = evalP (p.take k) n + p.getD k 0 * bino n k := by
  obtain ⟨c1, c2⟩ := h.get k
  obtain ⟨b1, b2⟩ := bino_bd (n := n) (k := k) hn (by have := h.1; omega)
  have m1 : p.getD k 0 * bino n k ≤ 100000 * bino n k := Int.mul_le_mul_of_nonneg_right c2 b1
  have m2 : -100000 * bino n k ≤ p.getD k 0 * bino n k := Int.mul_le_mul_of_nonneg_right c1 b1
  exact ⟨by omega, by omega, ev_take_succ p n k hk⟩

set_option maxRecDepth 20000 in
theorem c_valueAt (v : Value) (p : List Int) (n : Nat) (w : World) (ha : RdI w v p) (hp : evalOk p) (hn : n ≤ 100) :
    Calls Tryz.prog 100 #[v, (.int .i64 ((n : Int)))] w fun e w' => e = .returned (.int .i64 (evalP p n)) ∧ w = w' := by
  have ha0 := ha
  obtain ⟨a, cap, rfl, ha1⟩ := ha0
  clear ha1
  simp only [List.length_map] at ha ⊢
  have hp7 := hp.1
  go_enter Tryz.func100, Tryz.ntmps100
  go_wp2
  go_loop [5, 10] (fun s i => ∃ k : Nat, k ≤ p.length ∧ i = .int .i64 k ∧ s = .int .i64 (evalP (p.take k) n)) (fun _ i => p.length - (intOf i).toNat)
  case atStart => exact ⟨0, by omega, rfl, by rw [List.take_zero, evalP_nil]⟩
  case round =>
    obtain ⟨k, hk, rfl, rfl⟩ := hrel
    obtain ⟨s1, s2⟩ := (hp.take k).bd hn
    by_cases hlt : k < p.length
    · obtain ⟨b1, o1, rfl, hb1, e1⟩ := RdI_cell ha (Below.refl _ _) hlt
      obtain ⟨r1, r2, r3⟩ := ev_round hp hn hlt
      have E : Hid _ := r3
      obtain ⟨y, hy⟩ : ∃ y, p.getD k 0 = y := ⟨_, rfl⟩
      rw [hy] at e1 r1 r2
      have HY : Hid _ := hy
      obtain ⟨S, hS⟩ : ∃ S, evalP (p.take k) n = S := ⟨_, rfl⟩
      rw [hS] at s1 s2 ⊢
      have HS : Hid _ := hS
      clear r3 hy hS ha
      go_wp2_with (go_at_call 127; refine (c_choose _ _ _ hn (by omega)).mono ?_; rintro e w' ⟨rfl, rfl⟩)
      go_round
      case rel => exact ⟨k + 1, by omega, by go_num, by rw [E.out, HS.out, HY.out]⟩
      case measure => simp [intOf]; omega
    · have E : Hid (evalP (p.take k) n = evalP p n) := by show _ = _; rw [List.take_of_length_le (by omega)]
      clear ha
      go_wp2
      go_ret
      exact ⟨ret_int E.out, rfl⟩

theorem quiet_l {P : Program} {f : FuncId} {args : Array Value} {w : World} {n : Nat} {v : Value}
    (h : Calls P f args (w.drewN n) fun e w' => e = .returned v ∧ w.drewN n = w') : Calls P f args (w.drewN n) fun e w'' => e = .returned v ∧ ∃ m, w'' = w.drewN m :=
  h.mono fun _ _ ⟨he, hm⟩ => ⟨he, n, hm.symm⟩
set_option maxRecDepth 20000 in
theorem c_l2Eval (v : Value) (p : List Int) (n : Nat) (w : World) (ha : RdI w v p) (hp : evalOk p) (hn : n ≤ 100) :
    Calls Tryz.prog 98 #[v, (.int .i64 ((n : Int)))] w fun e w' => e = .returned (.int .i64 (evalP p n)) ∧ Below w.heap.size w w' := by
  have ha0 := ha
  obtain ⟨a, cap, rfl, ha1⟩ := ha0
  clear ha1
  simp only [List.length_map] at ha ⊢
  have hp7 := hp.1
  go_enter Tryz.func98, Tryz.ntmps98
  go_wp2
  go_loopw [5, 6] (fun s i wr => ∃ k : Nat, k ≤ p.length ∧ i = .int .i64 k ∧ s = .int .i64 (evalP (p.take k) n) ∧ Below w.heap.size w wr) (fun _ i _ => p.length - (intOf i).toNat)
  case atStart => exact ⟨0, by omega, rfl, by rw [List.take_zero, evalP_nil], Below.refl _ _⟩
  case round =>
    obtain ⟨k, hk, rfl, rfl, hB⟩ := hrel
    obtain ⟨s1, s2⟩ := (hp.take k).bd hn
    by_cases hlt : k < p.length
    · obtain ⟨b1, o1, rfl, hb1, e1⟩ := RdI_cell ha hB hlt
      obtain ⟨r1, r2, r3⟩ := ev_round hp hn hlt
      have E : Hid _ := r3
      obtain ⟨y, hy⟩ : ∃ y, p.getD k 0 = y := ⟨_, rfl⟩
      rw [hy] at e1 r1 r2
      have HY : Hid _ := hy
      obtain ⟨S, hS⟩ : ∃ S, evalP (p.take k) n = S := ⟨_, rfl⟩
      rw [hS] at s1 s2 ⊢
      have HS : Hid _ := hS
      have hk6 : k ≤ 6 := by omega
      have i1 : (0 : Int) ≤ (k : Int) := by omega
      have i2 : (k : Int) < (p.length : Int) := by omega
      obtain ⟨m, hm⟩ : ∃ m, y * bino n k = m := ⟨_, rfl⟩
      rw [hm] at r1 r2
      have g1 : IntKind.i64.wrap (y * bino n k) = m := by rw [hm]; exact IntWalk.i64_in _ (by omega)
      have g2 : IntKind.i64.wrap (S + m) = S + m := IntWalk.i64_in _ (by omega)
      have HM : Hid _ := hm
      clear r3 hy hS ha hm
      go_wp2
      go_quiet ((go_at_call 126; exact quiet_l (c_l2Choose _ _ _ hn hk6)))
      clear g1 g2
      go_wp2
      go_roundw
      case rel => exact ⟨k + 1, by omega, by go_num, by rw [E.out, HS.out, HY.out, HM.out], below_drewN hB _⟩
      case measure => simp [intOf]; omega
    · have E : Hid (evalP (p.take k) n = evalP p n) := by show _ = _; rw [List.take_of_length_le (by omega)]
      clear ha
      go_wp2
      go_ret
      exact ⟨ret_int E.out, hB⟩

set_option maxRecDepth 20000 in
theorem c_impl_PolyValid (v : Value) (p : List Int) (w : World) (ha : RdI w v p) (hx : p.length ≤ 1099511627776) :
    Calls Tryz.prog 55 #[v] w fun e w' => e = .returned (.bool (polyB p)) ∧ Below w.heap.size w w' := by
  have ha0 := ha
  obtain ⟨a, cap, rfl, ha1⟩ := ha0
  clear ha1
  simp only [List.length_map] at ha ⊢
  by_cases hl : 1 ≤ p.length ∧ p.length ≤ 7
  · have E : Hid (polyB p = allIn p 100000) := by show _ = _; unfold polyB; rw [inB_t (by omega) (by omega)]; rfl
    go_enter Tryz.func55, Tryz.ntmps55
    go_wp2_with (go_at_call 82; refine (c_allWithin _ p _ _ ha hx (by omega) (by omega)).mono ?_; rintro e w1 ⟨rfl, hB⟩)
    go_ret
    exact ⟨ret_bool E.out.symm, hB⟩
  · have E : Hid (polyB p = false) := by show _ = _; unfold polyB; rw [inB_f (by omega)]; rfl
    have hd : p.length < 1 ∨ (1 ≤ p.length ∧ 7 < p.length) := by omega
    clear hl ha
    rcases hd with h | ⟨h, h2⟩
    · have h0 : decide ((1 : Int) ≤ (p.length : Int)) = false := decide_eq_false (by omega)
      go_enter Tryz.func55, Tryz.ntmps55
      go_wp2
      go_ret
      exact ⟨ret_bool E.out.symm, Below.refl _ _⟩
    · go_enter Tryz.func55, Tryz.ntmps55
      go_wp2
      go_ret
      exact ⟨ret_bool E.out.symm, Below.refl _ _⟩

set_option maxRecDepth 20000 in
theorem c_spec_PolyValid (v : Value) (p : List Int) (w : World) (ha : RdI w v p) (hx : p.length ≤ 1099511627776) :
    Calls Tryz.prog 62 #[v] w fun e w' => e = .returned (.bool (polyB p)) ∧ Below w.heap.size w w' := by
  have ha0 := ha
  obtain ⟨a, cap, rfl, ha1⟩ := ha0
  clear ha1
  simp only [List.length_map] at ha ⊢
  go_enter Tryz.func62, Tryz.ntmps62
  go_wp2
  go_loopw [3] (fun i wr => ∃ k : Nat, k ≤ p.length ∧ i = .int .i64 k ∧ allIn (p.take k) 100000 = true ∧ Below w.heap.size w wr) (fun i _ => p.length - (intOf i).toNat)
  case atStart => exact ⟨0, by omega, rfl, rfl, Below.refl _ _⟩
  case round =>
    obtain ⟨k, hk, rfl, hA, hB⟩ := hrel
    have HA : Hid (allIn (p.take k) 100000 = true) := hA
    clear hA
    by_cases hlt : k < p.length
    · obtain ⟨b1, o1, rfl, hb1, e1⟩ := RdI_cell ha hB hlt
      obtain ⟨x, hx1⟩ : ∃ x, p.getD k 0 = x := ⟨_, rfl⟩
      rw [hx1] at e1
      cases hi : inB x (-100000) 100000
      · have HO : Hid (polyB p = false) := by
          have h : allIn p 100000 = false := allIn_not hlt (by rw [hx1]; exact hi)
          show _ = _
          unfold polyB; rw [h, Bool.and_false]
        clear hx1 ha
        go_wp2_with (first | (go_at_call 60; refine (c_l1In _ _ _ _).mono ?_; rintro e w' ⟨rfl, rfl⟩))
        go_ret
        exact ⟨ret_bool HO.out.symm, hB⟩
      · have HO : Hid (allIn (p.take (k + 1)) 100000 = true) := by show _ = _; rw [allIn_take p _ k hlt, HA.out, hx1, hi]; rfl
        clear hx1 ha
        go_wp2_with (first | (go_at_call 60; refine (c_l1In _ _ _ _).mono ?_; rintro e w' ⟨rfl, rfl⟩))
        go_roundw
        case rel => exact ⟨k + 1, by omega, by go_num, HO.out, hB⟩
        case measure => simp [intOf]; omega
    · have HO : Hid (polyB p = inB p.length 1 7) := by
        have h := HA.out
        rw [List.take_of_length_le (by omega)] at h
        show _ = _
        unfold polyB; rw [h, Bool.and_true]
      clear ha
      go_wp2_with (first | (go_at_call 60; refine (c_l1In _ _ _ _).mono ?_; rintro e w' ⟨rfl, rfl⟩))
      go_ret
      exact ⟨ret_bool HO.out.symm, hB⟩

set_option maxRecDepth 20000 in
theorem c_l2Argument (n : Int) (w : World) :
    Calls Tryz.prog 161 #[(.int .i64 (n))] w fun e w' => e = .returned (.bool (inB n (-200) 200)) ∧ w = w' := by
  go_enter Tryz.func161, Tryz.ntmps161
  go_wp2_with (go_at_call 60; refine (c_l1In _ _ _ _).mono ?_; rintro e w' ⟨rfl, rfl⟩)
  go_ret
  exact ⟨rfl, rfl⟩
set_option maxRecDepth 20000 in
theorem c_l4Degree (n : Int) (w : World) :
    Calls Tryz.prog 84 #[(.int .i64 (n))] w fun e w' => e = .returned (.bool (inB n 0 6)) ∧ w = w' := by
  go_enter Tryz.func84, Tryz.ntmps84
  go_wp2_with (go_at_call 60; refine (c_l1In _ _ _ _).mono ?_; rintro e w' ⟨rfl, rfl⟩)
  go_ret
  exact ⟨rfl, rfl⟩
set_option maxRecDepth 20000 in
theorem c_degreeValid (n : Int) (w : World) :
    Calls Tryz.prog 41 #[(.int .i64 (n))] w fun e w' => e = .returned (.bool (inB n 0 6)) ∧ w = w' := by
  go_enter Tryz.func41, Tryz.ntmps41
  go_wp2
  all_goals (go_ret; refine ⟨ret_bool ?_, rfl⟩; go_light; unfold inB; simp; try omega)
set_option maxRecDepth 20000 in
theorem c_costValid (n : Int) (w : World) :
    Calls Tryz.prog 48 #[(.int .i64 (n))] w fun e w' => e = .returned (.bool (inB n 0 1000)) ∧ w = w' := by
  go_enter Tryz.func48, Tryz.ntmps48
  go_wp2
  all_goals (go_ret; refine ⟨ret_bool ?_, rfl⟩; go_light; unfold inB; simp; try omega)

end Go.Proofs.YtdfnclnjnmdboaaGreatDoor

namespace Go.Proofs.YtdfnclnjnmdboaaGreatDoor
set_option linter.unusedVariables false
open Go.RowKit

theorem madeP0 (w : World) : (w.alloc (.cells #[] 3)).ownsRow w.heap.size 3 1 (.slice (some ⟨w.heap.size, 0, none⟩) 0 0) 0 [] := World.ownsRow_made w #[] 0 (Nat.le_refl _) (by decide) rfl
theorem map_range_getD (xs : List Int) : (List.range xs.length).map (fun i => (.int .i64 (xs.getD i 0))) = xs.map (Value.int .i64) := by
  apply List.ext_getElem
  · simp
  · intro i h1 h2; simp at h1; simp [List.getD, h1]
theorem take_snoc_getD (xs : List Int) (k : Nat) (hk : k < xs.length) : xs.take (k + 1) = xs.take k ++ [xs.getD k 0] := by
  rw [List.take_add_one]; simp [List.getD, hk]

set_option maxRecDepth 20000 in
theorem c_l2Values (v : Value) (p : List Int) (f c : Nat) (w : World) (ha : RdI w v p) (hp : evalOk p) (hn : f + c ≤ 101) :
    Calls Tryz.prog 64 #[v, (.int .i64 ((f : Int))), (.int .i64 (1)), (.int .i64 ((c : Int)))] w (FreshI w (valsF p f c)) := by
  have ha0 := ha
  obtain ⟨a, cap, rfl, ha1⟩ := ha0
  clear ha1
  simp only [List.length_map] at ha ⊢
  have hs0 := madeP0 w
  have hB0 : Below w.heap.size w (w.alloc (.cells #[] 3)) := (Below.refl _ _).alloc (Nat.le_refl _) _
  go_enter Tryz.func64, Tryz.ntmps64
  go_wp2
  go_loopw [9, 10] (fun v i wr => ∃ k : Nat, k ≤ c ∧ i = .int .i64 k ∧ OwnI wr w.heap.size v (valsF p f k) ∧ Below w.heap.size w wr) (fun _ i _ => c - (intOf i).toNat)
  case atStart => exact ⟨0, by omega, rfl, hs0, hB0⟩
  case round =>
    obtain ⟨k, hk, rfl, ho, hB⟩ := hrel
    clear hs0 hB0
    by_cases hlt : k < c
    · have HS : Hid _ := valsF_succ p f k
      have hlen := valsF_len p f k
      obtain ⟨L, hL⟩ : ∃ L, valsF p f k = L := ⟨_, rfl⟩
      rw [hL] at ho hlen
      have HL : Hid (valsF p f (k + 1) = L ++ [evalP p (f + k)]) := by show _ = _; rw [HS.out, hL]
      clear hL HS
      have hl : L.length ≤ 101 := by omega
      have hfk : f + k ≤ 100 := by omega
      have hcast : (f : Int) + (k : Int) = ((f + k : Nat) : Int) := by push_cast; rfl
      have ha1 := ha.kept hB
      obtain ⟨m, hm⟩ : ∃ m, f + k = m := ⟨_, rfl⟩
      rw [hm] at HL hfk hcast
      have HC : Hid (∀ W, RdI W (.slice a p.length cap) p → Calls Tryz.prog 98 #[.slice a p.length cap, (.int .i64 ((f : Int) + (k : Int)))] W fun e w' => e = .returned (.int .i64 (evalP p m)) ∧ Below W.heap.size W w') := by
        show ∀ W, _
        intro W hW
        rw [hcast]
        exact c_l2Eval _ p m W hW hp hfk
      clear hm hlen ha hcast
      go_wp2_with fail
      refine (HC.out _ ha1).mono ?_
      rintro e w1 ⟨rfl, hB1⟩
      replace ho := ownsRow_kept_below ho hB1
      replace hB := bthen hB hB1
      have hBs := hB.size
      clear hB1
      go_wp2_with (at_builtin; refine app1 32 3 Tryz.underlying32 infoInt rfl (by decide) rfl _ _ rfl w.heap.size _ _ _ rfl ho rfl rfl ?c1 ?c2 ?_)
      case c1 => omega
      case c2 => exact hBs
      intro v' wn ho3 hg1
      have HO : Hid (OwnI wn w.heap.size v' (valsF p f (k + 1)) ∧ Below w.heap.size w wn) :=
        ⟨by rw [HL.out]; exact OwnI_snoc' rfl ho3, hB.grown hg1 hBs (fun j hj => (ho.lt j hj).1)⟩
      clear ho ho3 hg1 hB ha1
      go_wp2
      go_roundw
      case rel => exact ⟨k + 1, by omega, by go_num, HO.out.1, HO.out.2⟩
      case measure => simp [intOf]; omega
    · have HO : Hid (OwnI wr w.heap.size u9 (valsF p f c) ∧ Below w.heap.size w wr) := by
        have : k = c := by omega
        subst this
        exact ⟨ho, hB⟩
      clear ho hB ha
      go_wp2
      go_ret
      exact ⟨_, rfl, HO.out.1, HO.out.2⟩

/-- bounds within which neighbours can be subtracted -/
def bdI (xs : List Int) : Prop := ∀ i, -4000000000000000000 ≤ xs.getD i 0 ∧ xs.getD i 0 ≤ 4000000000000000000
theorem nxt_take_succ (xs : List Int) (k : Nat) (h : k + 1 < xs.length) : (nxt xs).take (k + 1) = (nxt xs).take k ++ [xs.getD (k + 1) 0 - xs.getD k 0] := by
  rw [take_snoc_getD _ _ (by rw [nxt_len]; omega), nxt_getD _ _ h]

theorem keepC {w wx : World} {b o o' : Nat} {v0 v1 : Value} (e0 : w.cell? ⟨b, o, none⟩ = some v0) (e1 : w.cell? ⟨b, o', none⟩ = some v1) (hb : b < w.heap.size) (hB : Below w.heap.size w wx) : Below w.heap.size w wx ∧ wx.cell? ⟨b, o, none⟩ = some v0 ∧ wx.cell? ⟨b, o', none⟩ = some v1 :=
  ⟨hB, by rw [(bcell hB).1 _ _ hb]; exact e0, by rw [(bcell hB).1 _ _ hb]; exact e1⟩
set_option maxRecDepth 20000 in
theorem c_l2Next (v : Value) (xs : List Int) (w : World) (ha : RdI w v xs) (hx : xs.length ≤ 1000) (hb : bdI xs) :
    Calls Tryz.prog 143 #[v] w (FreshI w (nxt xs)) := by
  have ha0 := ha
  obtain ⟨a, cap, rfl, ha1⟩ := ha0
  clear ha1
  simp only [List.length_map] at ha ⊢
  have hs0 := madeP0 w
  have hB0 : Below w.heap.size w (w.alloc (.cells #[] 3)) := (Below.refl _ _).alloc (Nat.le_refl _) _
  have hnl := nxt_len xs
  go_enter Tryz.func143, Tryz.ntmps143
  go_wp2
  go_loopw [3, 4] (fun v i wr => ∃ k : Nat, k ≤ xs.length - 1 ∧ i = .int .i64 k ∧ OwnI wr w.heap.size v ((nxt xs).take k) ∧ Below w.heap.size w wr) (fun _ i _ => xs.length - (intOf i).toNat)
  case atStart => exact ⟨0, by omega, rfl, hs0, hB0⟩
  case round =>
    obtain ⟨k, hk, rfl, ho, hB⟩ := hrel
    clear hs0 hB0
    by_cases hlt : k + 1 < xs.length
    · obtain ⟨b1, o1, rfl, hb1, e1⟩ := RdI_cell ha hB (k := k) (by omega)
      obtain ⟨_, _, he, _, e2⟩ := RdI_cell ha hB (k := k + 1) hlt
      simp only [Option.some.injEq, Addr.mk.injEq] at he
      obtain ⟨rfl, rfl, _⟩ := he
      obtain ⟨_, _, he, _, e0⟩ := RdI_cell ha (Below.refl _ _) (k := k) (by omega)
      simp only [Option.some.injEq, Addr.mk.injEq] at he
      obtain ⟨rfl, rfl, _⟩ := he
      obtain ⟨_, _, he, _, e0'⟩ := RdI_cell ha (Below.refl _ _) (k := k + 1) hlt
      simp only [Option.some.injEq, Addr.mk.injEq] at he
      obtain ⟨rfl, rfl, _⟩ := he
      obtain ⟨x1, x2⟩ := hb k
      obtain ⟨y1, y2⟩ := hb (k + 1)
      have HN : Hid _ := nxt_take_succ xs k hlt
      obtain ⟨x, hx1⟩ : ∃ x, xs.getD k 0 = x := ⟨_, rfl⟩
      obtain ⟨y, hy1⟩ : ∃ y, xs.getD (k + 1) 0 = y := ⟨_, rfl⟩
      have hlen : ((nxt xs).take k).length ≤ 1000 := by rw [List.length_take]; omega
      obtain ⟨L, hL⟩ : ∃ L, (nxt xs).take k = L := ⟨_, rfl⟩
      rw [hx1] at e1 e0 x1 x2
      rw [hy1] at e2 e0' y1 y2
      rw [hL] at ho hlen
      have HL : Hid ((nxt xs).take (k + 1) = L ++ [y - x]) := by show _ = _; rw [HN.out, hL, hx1, hy1]
      clear HN hx1 hy1 hL ha hb hnl
      have i1 : (0 : Int) ≤ (k : Int) := by omega
      have i2 : (k : Int) < (xs.length : Int) := by omega
      have i3 : (0 : Int) ≤ (k : Int) + 1 := by omega
      have i4 : (k : Int) + 1 < (xs.length : Int) := by omega
      have g0 : ((k : Int) + 1).toNat = k + 1 := by omega
      have g1 : IntKind.i64.wrap ((k : Int) + 1) = (k : Int) + 1 := IntWalk.i64_in _ (by omega)
      have g2 : IntKind.i64.wrap (y - x) = y - x := IntWalk.i64_in _ (by omega)
      have hBs : w.heap.size ≤ wr.drew.heap.size := hB.size
      have hod : wr.drew.ownsRow w.heap.size 3 1 u3 L.length (L.map (Value.int .i64)) := ho
      go_wp2
      have hk0 : Below w.heap.size w wr.drew ∧ wr.drew.cell? ⟨b1, o1 + k, none⟩ = some (.int .i64 (x)) ∧ wr.drew.cell? ⟨b1, o1 + (k + 1), none⟩ = some (.int .i64 (y)) := ⟨hB.drew, e1, e2⟩
      go_region_held3 (fun wx => Below w.heap.size w wx ∧ wx.cell? ⟨b1, o1 + k, none⟩ = some (.int .i64 (x)) ∧ wx.cell? ⟨b1, o1 + (k + 1), none⟩ = some (.int .i64 (y))) (first | assumption | exact hk0 | exact keepC e0 e0' hb1 ((hB.alloc hB.size _).drew) | exact keepC e0 e0' hb1 (hB.drew.grown (by assumption) hBs (fun j hj => (hod.lt j hj).1)))
        ((refine sguard _ _ _ rfl ?_; refine sapp1 (w := wr.drew) 32 3 Tryz.underlying32 infoInt rfl (by decide) rfl _ _ rfl w.heap.size _ _ _ rfl rfl hod rfl rfl (by omega) hBs ?_; intro v' w3 ho3 hg3))
      have HO : Hid (OwnI w3 w.heap.size v' ((nxt xs).take (k + 1)) ∧ Below w.heap.size w w3) :=
        ⟨by rw [HL.out]; exact OwnI_snoc' rfl ho3, hB.drew.grown hg3 hBs (fun j hj => (hod.lt j hj).1)⟩
      clear ho ho3 hg3 hod g0 g1 g2 i3 i4 e1 e2 e0 e0' hk0
      go_wp2
      go_roundw
      case rel => exact ⟨k + 1, by omega, by go_num, HO.out.1, HO.out.2⟩
      case measure => simp [intOf]; omega
    · have HO : Hid (OwnI wr w.heap.size u3 (nxt xs) ∧ Below w.heap.size w wr) := by
        rw [List.take_of_length_le (by rw [hnl]; omega)] at ho
        exact ⟨ho, hB⟩
      have g3 : ¬ ((k : Int) + 1 < (xs.length : Int)) := by omega
      clear ho hB ha hb hnl
      go_wp2
      go_ret
      exact ⟨_, rfl, HO.out.1, HO.out.2⟩

set_option maxRecDepth 20000 in
theorem c_neighbors (v : Value) (xs : List Int) (w : World) (ha : RdI w v xs) (hx : xs.length ≤ 1000) (hb : bdI xs) :
    Calls Tryz.prog 94 #[v] w (FreshI w (nxt xs)) := by
  have ha0 := ha
  obtain ⟨a, cap, rfl, ha1⟩ := ha0
  clear ha1
  simp only [List.length_map] at ha ⊢
  have hnl := nxt_len xs
  by_cases h2 : xs.length < 2
  · have E : Hid (nxt xs = []) := List.eq_nil_of_length_eq_zero (by omega)
    clear hnl hb
    go_enter Tryz.func94, Tryz.ntmps94
    go_wp2
    go_ret
    exact ⟨_, rfl, by rw [E.out]; exact World.ownsRow_nil _ _ _ _, Below.refl _ _⟩
  · obtain ⟨n, hn⟩ : ∃ n, xs.length = n + 1 := ⟨xs.length - 1, by omega⟩
    have hnl' : (nxt xs).length = n := by omega
    rw [hn] at ha ⊢
    have HN : Hid (xs.length = n + 1) := hn
    have HNL : Hid _ := hnl'
    have hn1 : 1 ≤ n := by omega
    have hn2 : n ≤ 999 := by omega
    clear hn hnl hnl' h2
    go_enter Tryz.func94, Tryz.ntmps94
    go_wp2_with (at_make; refine mkfull 32 3 Tryz.underlying32 infoInt rfl (by decide) rfl _ _ rfl n rfl rfl ?ca ?cc ?cb ?_)
    case ca => omega
    case cc => omega
    case cb => omega
    intro w2 ho2 hB2 hz2
    go_wp2
    go_loopw [14] (fun i wr => ∃ k : Nat, k ≤ n ∧ i = .int .i64 k ∧ wr.ownsRow w.heap.size 3 1 (.slice (some ⟨w.heap.size, 0, none⟩) n n) n (fill (fun i => (.int .i64 ((nxt xs).getD i 0))) (.int .i64 (0)) k n) ∧ Below w.heap.size w wr) (fun i _ => n - (intOf i).toNat)
    case atStart => exact ⟨0, by omega, rfl, by rw [fill_zero]; exact ho2, hB2⟩
    case round =>
      obtain ⟨k, hk, rfl, ho, hB⟩ := hrel
      clear ho2 hB2 hz2
      by_cases hlt : k < n
      · obtain ⟨b1, o1, rfl, hb1, e1⟩ := RdI_cell ha hB (k := k) (by rw [HN.out]; omega)
        obtain ⟨_, _, he, _, e2⟩ := RdI_cell ha hB (k := k + 1) (by rw [HN.out]; omega)
        simp only [Option.some.injEq, Addr.mk.injEq] at he
        obtain ⟨rfl, rfl, _⟩ := he
        obtain ⟨_, _, he, _, e0⟩ := RdI_cell ha (Below.refl _ _) (k := k) (by rw [HN.out]; omega)
        simp only [Option.some.injEq, Addr.mk.injEq] at he
        obtain ⟨rfl, rfl, _⟩ := he
        obtain ⟨_, _, he, _, e0'⟩ := RdI_cell ha (Below.refl _ _) (k := k + 1) (by rw [HN.out]; omega)
        simp only [Option.some.injEq, Addr.mk.injEq] at he
        obtain ⟨rfl, rfl, _⟩ := he
        obtain ⟨x1, x2⟩ := hb k
        obtain ⟨y1, y2⟩ := hb (k + 1)
        have hg := nxt_getD xs k (by rw [HN.out]; omega)
        obtain ⟨⟨z, e3⟩, e4, ho3⟩ := fill_step ho hlt
        obtain ⟨x, hx1⟩ : ∃ x, xs.getD k 0 = x := ⟨_, rfl⟩
        obtain ⟨y, hy1⟩ : ∃ y, xs.getD (k + 1) 0 = y := ⟨_, rfl⟩
        rw [hx1] at e1 e0 x1 x2 hg
        rw [hy1] at e2 e0' y1 y2 hg
        have hBd := hB.drew
        simp only [hg] at ho3
        have HO : Hid (_ ∧ _) := ⟨ho3, hB.setCell (p := ⟨w.heap.size, k, none⟩) (Nat.le_refl _) (.int .i64 (y - x))⟩
        clear hx1 hy1 hg ho ho3 hB ha hb
        have i1 : (0 : Int) ≤ (k : Int) := by omega
        have i2 : (k : Int) < (n : Int) := by omega
        have i3 : (0 : Int) ≤ (k : Int) + 1 := by omega
        have i4 : (k : Int) + 1 < (n : Int) + 1 := by omega
        have i5 : (k : Int) < (n : Int) + 1 := by omega
        have g0 : ((k : Int) + 1).toNat = k + 1 := by omega
        have g1 : IntKind.i64.wrap ((k : Int) + 1) = (k : Int) + 1 := IntWalk.i64_in _ (by omega)
        have g2 : IntKind.i64.wrap (y - x) = y - x := IntWalk.i64_in _ (by omega)
        go_wp2
        go_region_held3 (fun wx => Below w.heap.size w wx ∧ wx.cell? ⟨b1, o1 + k, none⟩ = some (.int .i64 (x)) ∧ wx.cell? ⟨b1, o1 + (k + 1), none⟩ = some (.int .i64 (y))) (first | assumption | exact keepC e0 e0' hb1 hBd | exact keepC e0 e0' hb1 (hBd.setCell (p := ⟨w.heap.size, k, none⟩) (Nat.le_refl _) _)) (fail)
        clear g0 g1 g2 i3 i4 i5 e1 e2 e0 e0' hBd
        go_wp2
        go_roundw
        case rel => exact ⟨k + 1, by omega, by go_num, HO.out.1, HO.out.2.drew⟩
        case measure => simp [intOf]; omega
      · have HO : Hid (OwnI wr w.heap.size (.slice (some ⟨w.heap.size, 0, none⟩) n n) (nxt xs) ∧ Below w.heap.size w wr) := by
          have : k = n := by omega
          subst this
          have hnl := HNL.out
          subst hnl
          rw [fill_end, map_range_getD] at ho
          exact ⟨ho, hB⟩
        clear ho hB ha hb
        go_wp2
        go_ret
        exact ⟨_, rfl, HO.out.1, HO.out.2⟩
end Go.Proofs.YtdfnclnjnmdboaaGreatDoor
