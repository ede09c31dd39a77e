/- Contracts: tables of numbers within bounds, rounded tables; program and reference. -/
import Derived.Test.YtdgnhplaakjlgaaGreatDoorMark
import Derived.Test.YtdgnhplaakjlgaaGreatDoorRound
namespace Go.Proofs.YtdgnhplaakjlgaaGreatDoor
set_option linter.unusedVariables false
open Go.RowKit

def allIn (xs : List Int) (b : Int) : Bool := xs.all fun n => inB n (-b) b
def tabB (xs : List Int) : Bool := inB xs.length 1 60 && allIn xs 1000000000
theorem allIn_take (xs : List Int) (b : Int) (k : Nat) (hk : k < xs.length) : allIn (xs.take (k + 1)) b = (allIn (xs.take k) b && inB (xs.getD k 0) (-b) b) := by
  unfold allIn
  rw [List.take_add_one, List.all_append]
  simp [List.getD, hk]
theorem allIn_get {xs : List Int} {b : Int} (h : allIn xs b = true) {k : Nat} (hk : k < xs.length) : -b ≤ xs.getD k 0 ∧ xs.getD k 0 ≤ b := by
  unfold allIn at h
  have := List.all_eq_true.1 h (xs.getD k 0) (by simp [List.getD, hk])
  exact inB_iff.1 this
theorem allIn_not {xs : List Int} {b : Int} {k : Nat} (hk : k < xs.length) (h : inB (xs.getD k 0) (-b) b = false) : allIn xs b = false := by
  cases e : allIn xs b
  · rfl
  · have := allIn_get e hk
    rw [inB_t this.1 this.2] at h; cases h
/-- the cell of element k, of a slice that reads as xs, in a later world -/
theorem RdI_cell {w wr : World} {a : Option Addr} {n cap : Nat} {xs : List Int} (h : RdI w (.slice a n cap) xs) (hB : Below w.heap.size w wr) {k : Nat} (hk : k < xs.length) :
    ∃ b o, a = some ⟨b, o, none⟩ ∧ b < w.heap.size ∧ wr.cell? ⟨b, o + k, none⟩ = some (.int .i64 (xs.getD k 0)) := by
  rcases h.op with ⟨a', cap', e1, rfl⟩ | ⟨b1, o1, c1, e0, hb1, h1⟩
  · simp at hk
  · simp only [Value.slice.injEq] at e0
    exact ⟨b1, o1, e0.1, hb1, by rw [(bcell hB).1 _ _ hb1]; exact h1 k hk⟩

set_option maxRecDepth 20000 in
theorem c_allWithin (v : Value) (xs : List Int) (b : Int) (w : World) (ha : RdI w v xs) (hx : xs.length ≤ 1099511627776) (hb : 0 ≤ b) (hb' : b ≤ 1000000000000) :
    Calls Tryz.prog 66 #[v, (.int .i64 (b))] w fun e w' => e = .returned (.bool (allIn xs b)) ∧ Below w.heap.size w w' := by
  have ha0 := ha
  obtain ⟨a, cap, rfl, ha1⟩ := ha0
  clear ha1
  simp only [List.length_map] at ha ⊢
  go_enter Tryz.func66, Tryz.ntmps66
  go_wp2
  go_loopw [9] (fun i wr => ∃ k : Nat, k ≤ xs.length ∧ i = .int .i64 k ∧ allIn (xs.take k) b = true ∧ Below w.heap.size w wr) (fun i _ => xs.length - (intOf i).toNat)
  case atStart => exact ⟨0, by omega, rfl, rfl, Below.refl _ _⟩
  case round =>
    obtain ⟨k, hk, rfl, hA, hB⟩ := hrel
    have HA : Hid (allIn (xs.take k) b = true) := hA
    clear hA
    by_cases hlt : k < xs.length
    · obtain ⟨b1, o1, rfl, hb1, e1⟩ := RdI_cell ha hB hlt
      obtain ⟨x, hx1⟩ : ∃ x, xs.getD k 0 = x := ⟨_, rfl⟩
      rw [hx1] at e1
      cases hi : inB x (-b) b
      · have HO : Hid (allIn xs b = false) := allIn_not hlt (by rw [hx1]; exact hi)
        clear hx1 ha
        go_wp2_with (first | (go_at_call 67; refine (c_within _ _ _ hb hb').mono ?_; rintro e w' ⟨rfl, rfl⟩))
        go_ret
        exact ⟨ret_bool HO.out.symm, hB⟩
      · have HO : Hid (allIn (xs.take (k + 1)) b = true) := by show _ = _; rw [allIn_take xs b k hlt, HA.out, hx1, hi]; rfl
        clear hx1 ha
        go_wp2_with (first | (go_at_call 67; refine (c_within _ _ _ hb hb').mono ?_; rintro e w' ⟨rfl, rfl⟩))
        go_roundw
        case rel => exact ⟨k + 1, by omega, by go_num, HO.out, hB⟩
        case measure => simp [intOf]; omega
    · have HO : Hid (allIn xs b = true) := by
        have h := HA.out
        rw [List.take_of_length_le (by omega)] at h
        exact h
      clear ha
      go_wp2
      go_ret
      exact ⟨ret_bool HO.out.symm, hB⟩

set_option maxRecDepth 20000 in
theorem c_impl_TableValid (v : Value) (xs : List Int) (w : World) (ha : RdI w v xs) (hx : xs.length ≤ 1099511627776) :
    Calls Tryz.prog 42 #[v] w fun e w' => e = .returned (.bool (tabB xs)) ∧ Below w.heap.size w w' := by
  have ha0 := ha
  obtain ⟨a, cap, rfl, ha1⟩ := ha0
  clear ha1
  simp only [List.length_map] at ha ⊢
  by_cases hl : 1 ≤ xs.length ∧ xs.length ≤ 60
  · have E : Hid (tabB xs = allIn xs 1000000000) := by show _ = _; unfold tabB; rw [inB_t (by omega) (by omega)]; rfl
    go_enter Tryz.func42, Tryz.ntmps42
    go_wp2_with (go_at_call 66; refine (c_allWithin _ xs _ _ ha hx (by omega) (by omega)).mono ?_; rintro e w1 ⟨rfl, hB⟩)
    go_ret
    exact ⟨ret_bool E.out.symm, hB⟩
  · have E : Hid (tabB xs = false) := by show _ = _; unfold tabB; rw [inB_f (by omega)]; rfl
    have hd : xs.length < 1 ∨ (1 ≤ xs.length ∧ 60 < xs.length) := by omega
    clear hl ha
    rcases hd with h | ⟨h, h2⟩
    · have h0 : decide ((1 : Int) ≤ (xs.length : Int)) = false := decide_eq_false (by omega)
      go_enter Tryz.func42, Tryz.ntmps42
      go_wp2
      go_ret
      exact ⟨ret_bool E.out.symm, Below.refl _ _⟩
    · go_enter Tryz.func42, Tryz.ntmps42
      go_wp2
      go_ret
      exact ⟨ret_bool E.out.symm, Below.refl _ _⟩

set_option maxRecDepth 20000 in
theorem c_spec_TableValid (v : Value) (xs : List Int) (w : World) (ha : RdI w v xs) (hx : xs.length ≤ 1099511627776) :
    Calls Tryz.prog 45 #[v] w fun e w' => e = .returned (.bool (tabB xs)) ∧ Below w.heap.size w w' := by
  have ha0 := ha
  obtain ⟨a, cap, rfl, ha1⟩ := ha0
  clear ha1
  simp only [List.length_map] at ha ⊢
  go_enter Tryz.func45, Tryz.ntmps45
  go_wp2
  go_loopw [3] (fun i wr => ∃ k : Nat, k ≤ xs.length ∧ i = .int .i64 k ∧ allIn (xs.take k) 1000000000 = true ∧ Below w.heap.size w wr) (fun i _ => xs.length - (intOf i).toNat)
  case atStart => exact ⟨0, by omega, rfl, rfl, Below.refl _ _⟩
  case round =>
    obtain ⟨k, hk, rfl, hA, hB⟩ := hrel
    have HA : Hid (allIn (xs.take k) 1000000000 = true) := hA
    clear hA
    by_cases hlt : k < xs.length
    · obtain ⟨b1, o1, rfl, hb1, e1⟩ := RdI_cell ha hB hlt
      obtain ⟨x, hx1⟩ : ∃ x, xs.getD k 0 = x := ⟨_, rfl⟩
      rw [hx1] at e1
      cases hi : inB x (-1000000000) 1000000000
      · have HO : Hid (tabB xs = false) := by
          have h : allIn xs 1000000000 = false := allIn_not hlt (by rw [hx1]; exact hi)
          show _ = _
          unfold tabB; rw [h, Bool.and_false]
        clear hx1 ha
        go_wp2_with (first | (go_at_call 29; refine (c_l1In _ _ _ _).mono ?_; rintro e w' ⟨rfl, rfl⟩))
        go_ret
        exact ⟨ret_bool HO.out.symm, hB⟩
      · have HO : Hid (allIn (xs.take (k + 1)) 1000000000 = true) := by show _ = _; rw [allIn_take xs _ k hlt, HA.out, hx1, hi]; rfl
        clear hx1 ha
        go_wp2_with (first | (go_at_call 29; refine (c_l1In _ _ _ _).mono ?_; rintro e w' ⟨rfl, rfl⟩))
        go_roundw
        case rel => exact ⟨k + 1, by omega, by go_num, HO.out, hB⟩
        case measure => simp [intOf]; omega
    · have HO : Hid (tabB xs = inB xs.length 1 60) := by
        have h := HA.out
        rw [List.take_of_length_le (by omega)] at h
        show _ = _
        unfold tabB; rw [h, Bool.and_true]
      clear ha
      go_wp2_with (first | (go_at_call 29; refine (c_l1In _ _ _ _).mono ?_; rintro e w' ⟨rfl, rfl⟩))
      go_ret
      exact ⟨ret_bool HO.out.symm, hB⟩
theorem tabB_iff {xs : List Int} (h : tabB xs = true) : 1 ≤ xs.length ∧ xs.length ≤ 60 ∧ allIn xs 1000000000 = true := by
  unfold tabB at h
  rw [Bool.and_eq_true] at h
  have := inB_iff.1 h.1
  exact ⟨by omega, by omega, h.2⟩
end Go.Proofs.YtdgnhplaakjlgaaGreatDoor
