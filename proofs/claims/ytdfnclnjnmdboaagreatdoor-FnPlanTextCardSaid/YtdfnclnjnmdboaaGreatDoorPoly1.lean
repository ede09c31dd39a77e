/- Contracts: binomial coefficients, values of polynomials, valid polynomials; program and reference. -/
import Derived.Test.YtdfnclnjnmdboaaGreatDoorTab
import Derived.Test.YtdfnclnjnmdboaaGreatDoorPolyP
namespace Go.Proofs.YtdfnclnjnmdboaaGreatDoor
set_option linter.unusedVariables false
open Go.RowKit

theorem bino_ch {n k : Nat} (hn : n ≤ 100) (hk : k ≤ 5) : 0 ≤ bino n k * ((n : Int) - (k : Int)) ∧ bino n k * ((n : Int) - (k : Int)) ≤ 10000000000000 ∧ (bino n k * ((n : Int) - (k : Int))) / ((k : Int) + 1) = bino n (k + 1) := by
  have h := bino_step n k
  obtain ⟨b1, b2⟩ := bino_bd (k := k + 1) hn (by omega)
  rw [← h]
  refine ⟨Int.mul_nonneg b1 (by omega), ?_, Int.mul_ediv_cancel _ (by omega)⟩
  have : bino n (k + 1) * ((k : Int) + 1) ≤ bino n (k + 1) * 6 := Int.mul_le_mul_of_nonneg_left (by omega) b1
  omega

set_option maxRecDepth 20000 in
theorem c_choose (n k : Nat) (w : World) (hn : n ≤ 100) (hk : k ≤ 6) :
    Calls Tryz.prog 127 #[(.int .i64 ((n : Int))), (.int .i64 ((k : Int)))] w fun e w' => e = .returned (.int .i64 (bino n k)) ∧ w = w' := by
  go_enter Tryz.func127, Tryz.ntmps127
  go_wp2
  go_loop [5, 8] (fun p i => ∃ j : Nat, j ≤ k ∧ i = .int .i64 j ∧ p = .int .i64 (bino n j)) (fun _ i => k - (intOf i).toNat)
  case atStart => exact ⟨0, by omega, rfl, by rw [bino_zero]⟩
  case round =>
    obtain ⟨j, hj, rfl, rfl⟩ := hrel
    by_cases hlt : j < k
    · obtain ⟨h1, h2, h3⟩ := bino_ch (k := j) hn (by omega)
      have hz : ((j : Int) + 1 = 0) = False := eq_false (by omega)
      have e : Hid _ := h3
      clear h3
      go_wp2
      go_round
      case rel => exact ⟨j + 1, by omega, by go_num, by rw [e.out]⟩
      case measure => simp [intOf]; omega
    · have e : Hid (bino n k = bino n j) := by have : j = k := by omega
                                               subst this; rfl
      go_wp2
      go_ret
      exact ⟨ret_int e.out.symm, rfl⟩

set_option maxRecDepth 20000 in
theorem c_l2Choose (n k : Nat) (w : World) (hn : n ≤ 100) (hk : k ≤ 6) :
    Calls Tryz.prog 126 #[(.int .i64 ((n : Int))), (.int .i64 ((k : Int)))] w fun e w' => e = .returned (.int .i64 (bino n k)) ∧ w = w' := by
  go_enter Tryz.func126, Tryz.ntmps126
  go_wp2
  go_loop [5, 6] (fun p i => ∃ j : Nat, j ≤ k ∧ i = .int .i64 j ∧ p = .int .i64 (bino n j)) (fun _ i => k - (intOf i).toNat)
  case atStart => exact ⟨0, by omega, rfl, by rw [bino_zero]⟩
  case round =>
    obtain ⟨j, hj, rfl, rfl⟩ := hrel
    by_cases hlt : j < k
    · obtain ⟨h1, h2, h3⟩ := bino_ch (k := j) hn (by omega)
      have hz : ((j : Int) + 1 = 0) = False := eq_false (by omega)
      have e : Hid _ := h3
      clear h3
      go_wp2
      go_round
      case rel => exact ⟨j + 1, by omega, by go_num, by rw [e.out]⟩
      case measure => simp [intOf]; omega
    · have e : Hid (bino n k = bino n j) := by have : j = k := by omega
                                               subst this; rfl
      go_wp2
      go_ret
      exact ⟨ret_int e.out.symm, rfl⟩

/-- valid differences -/
def polyB (p : List Int) : Bool := inB p.length 1 7 && allIn p 100000
theorem polyB_iff {p : List Int} (h : polyB p = true) : 1 ≤ p.length ∧ p.length ≤ 7 ∧ allIn p 100000 = true := by
  unfold polyB at h
  rw [Bool.and_eq_true] at h
  have := inB_iff.1 h.1
  exact ⟨by omega, by omega, h.2⟩
theorem allIn_mem {xs : List Int} {b : Int} (h : allIn xs b = true) : ∀ x ∈ xs, -b ≤ x ∧ x ≤ b := fun x hx => inB_iff.1 (List.all_eq_true.1 h x hx)
theorem allIn_of {xs : List Int} {b : Int} (h : ∀ x ∈ xs, -b ≤ x ∧ x ≤ b) : allIn xs b = true := List.all_eq_true.2 fun x hx => inB_iff.2 (h x hx)
theorem polyB_of {p : List Int} (h1 : 1 ≤ p.length) (h2 : p.length ≤ 7) (h : ∀ x ∈ p, -100000 ≤ x ∧ x ≤ 100000) : polyB p = true := by
  unfold polyB; rw [inB_t (by omega) (by omega), allIn_of h]; rfl
/-- small enough to be evaluated -/
def evalOk (p : List Int) : Prop := p.length ≤ 7 ∧ ∀ x ∈ p, -100000 ≤ x ∧ x ≤ 100000
theorem polyB_ok {p : List Int} (h : polyB p = true) : evalOk p := ⟨(polyB_iff h).2.1, allIn_mem (polyB_iff h).2.2⟩
theorem evalOk.take {p : List Int} (h : evalOk p) (k : Nat) : evalOk (p.take k) := ⟨by have := h.1; simp; omega, fun x hx => h.2 x (List.mem_of_mem_take hx)⟩
theorem evalOk.drop {p : List Int} (h : evalOk p) (k : Nat) : evalOk (p.drop k) := ⟨by have := h.1; simp; omega, fun x hx => h.2 x (List.mem_of_mem_drop hx)⟩
theorem evalOk.bd {p : List Int} (h : evalOk p) {n : Nat} (hn : n ≤ 100) : -743064105420700000 ≤ evalP p n ∧ evalP p n ≤ 743064105420700000 := evalP_bd hn h.1 h.2
theorem evalOk.get {p : List Int} (h : evalOk p) (k : Nat) : -100000 ≤ p.getD k 0 ∧ p.getD k 0 ≤ 100000 := by
  by_cases hk : k < p.length
  · exact h.2 _ (by simp [List.getD, hk])
  · simp [List.getD, Nat.le_of_not_lt hk]
/-- what a round of an evaluation wants -/
theorem ev_round {p : List Int} {n k : Nat} (h : evalOk p) (hn : n ≤ 100) (hk : k < p.length) : -100000000000000000 * 2 ≤ p.getD k 0 * bino n k ∧ p.getD k 0 * bino n k ≤ 100000000000000000 * 2 ∧ evalP (p.take (k + 1)) n = evalP (p.take k) n + p.getD k 0 * bino n k := by
  obtain ⟨c1, c2⟩ := h.get k
  obtain ⟨b1, b2⟩ := bino_bd (n := n) (k := k) hn (by have := h.1; omega)
  have m1 : p.getD k 0 * bino n k ≤ 100000 * bino n k := Int.mul_le_mul_of_nonneg_right c2 b1
  have m2 : -100000 * bino n k ≤ p.getD k 0 * bino n k := Int.mul_le_mul_of_nonneg_right c1 b1
  exact ⟨by omega, by omega, ev_take_succ p n k hk⟩

set_option maxRecDepth 20000 in
theorem c_valueAt (v : Value) (p : List Int) (n : Nat) (w : World) (ha : RdI w v p) (hp : evalOk p) (hn : n ≤ 100) :
    Calls Tryz.prog 100 #[v, (.int .i64 ((n : Int)))] w fun e w' => e = .returned (.int .i64 (evalP p n)) ∧ w = w' := by
  have ha0 := ha
  obtain ⟨a, cap, rfl, ha1⟩ := ha0
  clear ha1
  simp only [List.length_map] at ha ⊢
  have hp7 := hp.1
  go_enter Tryz.func100, Tryz.ntmps100
  go_wp2
  go_loop [5, 10] (fun s i => ∃ k : Nat, k ≤ p.length ∧ i = .int .i64 k ∧ s = .int .i64 (evalP (p.take k) n)) (fun _ i => p.length - (intOf i).toNat)
  case atStart => exact ⟨0, by omega, rfl, by rw [List.take_zero, evalP_nil]⟩
  case round =>
    obtain ⟨k, hk, rfl, rfl⟩ := hrel
    obtain ⟨s1, s2⟩ := (hp.take k).bd hn
    by_cases hlt : k < p.length
    · obtain ⟨b1, o1, rfl, hb1, e1⟩ := RdI_cell ha (Below.refl _ _) hlt
      obtain ⟨r1, r2, r3⟩ := ev_round hp hn hlt
      have E : Hid _ := r3
      obtain ⟨y, hy⟩ : ∃ y, p.getD k 0 = y := ⟨_, rfl⟩
      rw [hy] at e1 r1 r2
      have HY : Hid _ := hy
      obtain ⟨S, hS⟩ : ∃ S, evalP (p.take k) n = S := ⟨_, rfl⟩
      rw [hS] at s1 s2 ⊢
      have HS : Hid _ := hS
      clear r3 hy hS ha
      go_wp2_with (go_at_call 127; refine (c_choose _ _ _ hn (by omega)).mono ?_; rintro e w' ⟨rfl, rfl⟩)
      go_round
      case rel => exact ⟨k + 1, by omega, by go_num, by rw [E.out, HS.out, HY.out]⟩
      case measure => simp [intOf]; omega
    · have E : Hid (evalP (p.take k) n = evalP p n) := by show _ = _; rw [List.take_of_length_le (by omega)]
      clear ha
      go_wp2
      go_ret
      exact ⟨ret_int E.out, rfl⟩

theorem quiet_l {P : Program} {f : FuncId} {args : Array Value} {w : World} {n : Nat} {v : Value}
    (h : Calls P f args (w.drewN n) fun e w' => e = .returned v ∧ w.drewN n = w') : Calls P f args (w.drewN n) fun e w'' => e = .returned v ∧ ∃ m, w'' = w.drewN m :=
  h.mono fun _ _ ⟨he, hm⟩ => ⟨he, n, hm.symm⟩
set_option maxRecDepth 20000 in
theorem c_l2Eval (v : Value) (p : List Int) (n : Nat) (w : World) (ha : RdI w v p) (hp : evalOk p) (hn : n ≤ 100) :
    Calls Tryz.prog 98 #[v, (.int .i64 ((n : Int)))] w fun e w' => e = .returned (.int .i64 (evalP p n)) ∧ Below w.heap.size w w' := by
  have ha0 := ha
  obtain ⟨a, cap, rfl, ha1⟩ := ha0
  clear ha1
  simp only [List.length_map] at ha ⊢
  have hp7 := hp.1
  go_enter Tryz.func98, Tryz.ntmps98
  go_wp2
  go_loopw [5, 6] (fun s i wr => ∃ k : Nat, k ≤ p.length ∧ i = .int .i64 k ∧ s = .int .i64 (evalP (p.take k) n) ∧ Below w.heap.size w wr) (fun _ i _ => p.length - (intOf i).toNat)
  case atStart => exact ⟨0, by omega, rfl, by rw [List.take_zero, evalP_nil], Below.refl _ _⟩
  case round =>
    obtain ⟨k, hk, rfl, rfl, hB⟩ := hrel
    obtain ⟨s1, s2⟩ := (hp.take k).bd hn
    by_cases hlt : k < p.length
    · obtain ⟨b1, o1, rfl, hb1, e1⟩ := RdI_cell ha hB hlt
      obtain ⟨r1, r2, r3⟩ := ev_round hp hn hlt
      have E : Hid _ := r3
      obtain ⟨y, hy⟩ : ∃ y, p.getD k 0 = y := ⟨_, rfl⟩
      rw [hy] at e1 r1 r2
      have HY : Hid _ := hy
      obtain ⟨S, hS⟩ : ∃ S, evalP (p.take k) n = S := ⟨_, rfl⟩
      rw [hS] at s1 s2 ⊢
      have HS : Hid _ := hS
      have hk6 : k ≤ 6 := by omega
      have i1 : (0 : Int) ≤ (k : Int) := by omega
      have i2 : (k : Int) < (p.length : Int) := by omega
      obtain ⟨m, hm⟩ : ∃ m, y * bino n k = m := ⟨_, rfl⟩
      rw [hm] at r1 r2
      have g1 : IntKind.i64.wrap (y * bino n k) = m := by rw [hm]; exact IntWalk.i64_in _ (by omega)
      have g2 : IntKind.i64.wrap (S + m) = S + m := IntWalk.i64_in _ (by omega)
      have HM : Hid _ := hm
      clear r3 hy hS ha hm
      go_wp2
      go_quiet ((go_at_call 126; exact quiet_l (c_l2Choose _ _ _ hn hk6)))
      clear g1 g2
      go_wp2
      go_roundw
      case rel => exact ⟨k + 1, by omega, by go_num, by rw [E.out, HS.out, HY.out, HM.out], below_drewN hB _⟩
      case measure => simp [intOf]; omega
    · have E : Hid (evalP (p.take k) n = evalP p n) := by show _ = _; rw [List.take_of_length_le (by omega)]
      clear ha
      go_wp2
      go_ret
      exact ⟨ret_int E.out, hB⟩

set_option maxRecDepth 20000 in
theorem c_impl_PolyValid (v : Value) (p : List Int) (w : World) (ha : RdI w v p) (hx : p.length ≤ 1099511627776) :
    Calls Tryz.prog 55 #[v] w fun e w' => e = .returned (.bool (polyB p)) ∧ Below w.heap.size w w' := by
  have ha0 := ha
  obtain ⟨a, cap, rfl, ha1⟩ := ha0
  clear ha1
  simp only [List.length_map] at ha ⊢
  by_cases hl : 1 ≤ p.length ∧ p.length ≤ 7
  · have E : Hid (polyB p = allIn p 100000) := by show _ = _; unfold polyB; rw [inB_t (by omega) (by omega)]; rfl
    go_enter Tryz.func55, Tryz.ntmps55
    go_wp2_with (go_at_call 82; refine (c_allWithin _ p _ _ ha hx (by omega) (by omega)).mono ?_; rintro e w1 ⟨rfl, hB⟩)
    go_ret
    exact ⟨ret_bool E.out.symm, hB⟩
  · have E : Hid (polyB p = false) := by show _ = _; unfold polyB; rw [inB_f (by omega)]; rfl
    have hd : p.length < 1 ∨ (1 ≤ p.length ∧ 7 < p.length) := by omega
    clear hl ha
    rcases hd with h | ⟨h, h2⟩
    · have h0 : decide ((1 : Int) ≤ (p.length : Int)) = false := decide_eq_false (by omega)
      go_enter Tryz.func55, Tryz.ntmps55
      go_wp2
      go_ret
      exact ⟨ret_bool E.out.symm, Below.refl _ _⟩
    · go_enter Tryz.func55, Tryz.ntmps55
      go_wp2
      go_ret
      exact ⟨ret_bool E.out.symm, Below.refl _ _⟩

set_option maxRecDepth 20000 in
theorem c_spec_PolyValid (v : Value) (p : List Int) (w : World) (ha : RdI w v p) (hx : p.length ≤ 1099511627776) :
    Calls Tryz.prog 62 #[v] w fun e w' => e = .returned (.bool (polyB p)) ∧ Below w.heap.size w w' := by
  have ha0 := ha
  obtain ⟨a, cap, rfl, ha1⟩ := ha0
  clear ha1
  simp only [List.length_map] at ha ⊢
  go_enter Tryz.func62, Tryz.ntmps62
  go_wp2
  go_loopw [3] (fun i wr => ∃ k : Nat, k ≤ p.length ∧ i = .int .i64 k ∧ allIn (p.take k) 100000 = true ∧ Below w.heap.size w wr) (fun i _ => p.length - (intOf i).toNat)
  case atStart => exact ⟨0, by omega, rfl, rfl, Below.refl _ _⟩
  case round =>
    obtain ⟨k, hk, rfl, hA, hB⟩ := hrel
    have HA : Hid (allIn (p.take k) 100000 = true) := hA
    clear hA
    by_cases hlt : k < p.length
    · obtain ⟨b1, o1, rfl, hb1, e1⟩ := RdI_cell ha hB hlt
      obtain ⟨x, hx1⟩ : ∃ x, p.getD k 0 = x := ⟨_, rfl⟩
      rw [hx1] at e1
      cases hi : inB x (-100000) 100000
      · have HO : Hid (polyB p = false) := by
          have h : allIn p 100000 = false := allIn_not hlt (by rw [hx1]; exact hi)
          show _ = _
          unfold polyB; rw [h, Bool.and_false]
        clear hx1 ha
        go_wp2_with (first | (go_at_call 60; refine (c_l1In _ _ _ _).mono ?_; rintro e w' ⟨rfl, rfl⟩))
        go_ret
        exact ⟨ret_bool HO.out.symm, hB⟩
      · have HO : Hid (allIn (p.take (k + 1)) 100000 = true) := by show _ = _; rw [allIn_take p _ k hlt, HA.out, hx1, hi]; rfl
        clear hx1 ha
        go_wp2_with (first | (go_at_call 60; refine (c_l1In _ _ _ _).mono ?_; rintro e w' ⟨rfl, rfl⟩))
        go_roundw
        case rel => exact ⟨k + 1, by omega, by go_num, HO.out, hB⟩
        case measure => simp [intOf]; omega
    · have HO : Hid (polyB p = inB p.length 1 7) := by
        have h := HA.out
        rw [List.take_of_length_le (by omega)] at h
        show _ = _
        unfold polyB; rw [h, Bool.and_true]
      clear ha
      go_wp2_with (first | (go_at_call 60; refine (c_l1In _ _ _ _).mono ?_; rintro e w' ⟨rfl, rfl⟩))
      go_ret
      exact ⟨ret_bool HO.out.symm, hB⟩

set_option maxRecDepth 20000 in
theorem c_l2Argument (n : Int) (w : World) :
    Calls Tryz.prog 161 #[(.int .i64 (n))] w fun e w' => e = .returned (.bool (inB n (-200) 200)) ∧ w = w' := by
  go_enter Tryz.func161, Tryz.ntmps161
  go_wp2_with (go_at_call 60; refine (c_l1In _ _ _ _).mono ?_; rintro e w' ⟨rfl, rfl⟩)
  go_ret
  exact ⟨rfl, rfl⟩
set_option maxRecDepth 20000 in
theorem c_l4Degree (n : Int) (w : World) :
    Calls Tryz.prog 84 #[(.int .i64 (n))] w fun e w' => e = .returned (.bool (inB n 0 6)) ∧ w = w' := by
  go_enter Tryz.func84, Tryz.ntmps84
  go_wp2_with (go_at_call 60; refine (c_l1In _ _ _ _).mono ?_; rintro e w' ⟨rfl, rfl⟩)
  go_ret
  exact ⟨rfl, rfl⟩
set_option maxRecDepth 20000 in
theorem c_degreeValid (n : Int) (w : World) :
    Calls Tryz.prog 41 #[(.int .i64 (n))] w fun e w' => e = .returned (.bool (inB n 0 6)) ∧ w = w' := by
  go_enter Tryz.func41, Tryz.ntmps41
  go_wp2
  all_goals (go_ret; refine ⟨ret_bool ?_, rfl⟩; go_light; unfold inB; simp; try omega)
set_option maxRecDepth 20000 in
theorem c_costValid (n : Int) (w : World) :
    Calls Tryz.prog 48 #[(.int .i64 (n))] w fun e w' => e = .returned (.bool (inB n 0 1000)) ∧ w = w' := by
  go_enter Tryz.func48, Tryz.ntmps48
  go_wp2
  all_goals (go_ret; refine ⟨ret_bool ?_, rfl⟩; go_light; unfold inB; simp; try omega)

end Go.Proofs.YtdfnclnjnmdboaaGreatDoor
