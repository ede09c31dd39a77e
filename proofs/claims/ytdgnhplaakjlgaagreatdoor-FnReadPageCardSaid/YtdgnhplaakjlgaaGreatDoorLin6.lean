/- Contracts: two slices of lines are held against each other, in the reference. -/
import Derived.Test.YtdgnhplaakjlgaaGreatDoorRows1
import Derived.Deep.QuietTactic
import Derived.BigQuiet
namespace Go.Proofs.YtdgnhplaakjlgaaGreatDoor
set_option linter.unusedVariables false
open Go.RowKit

set_option maxHeartbeats 400000 in
theorem c_l6LinesP (va vb : Value) (xs ys : List ByteArray) (w : World) (ha : RdS w va xs) (hb : RdS w vb ys) (hx : xs.length ≤ 9223372036854775807) (hy : ys.length ≤ 9223372036854775807) :
    Calls Tryz.prog 31 #[va, vb] w fun e w' => e = .returned (.bool (decide (xs = ys))) ∧ Below w.heap.size w w' := by
  by_cases hl : xs.length = ys.length
  · have ha0 := ha.op
    have hb0 := hb.op
    clear ha hb
    rcases ha0 with ⟨a, cap, rfl, rfl⟩ | ⟨b1, o1, c1, rfl, hb1, h1⟩
    · have hy0 : ys = [] := List.eq_nil_of_length_eq_zero (by simpa using hl.symm)
      subst hy0
      have : ∃ a c, vb = .slice a 0 c := by rcases hb0 with ⟨a, c, e, _⟩ | ⟨b, o, c, e, _⟩ <;> exact ⟨_, _, e⟩
      obtain ⟨a', c', rfl⟩ := this
      clear hb0 hl
      go_enter Tryz.func31, Tryz.ntmps31
      go_wp2
      refine wp_loop_rounds 1 ?_
      rw [rounds_succ]
      go_wp2
      go_ret
      exact ⟨by simp, Below.refl _ _⟩
    · rcases hb0 with ⟨a, cap, rfl, rfl⟩ | ⟨b2, o2, c2, rfl, hb2, h2⟩
      · have hx0 : xs = [] := List.eq_nil_of_length_eq_zero (by simpa using hl)
        subst hx0
        clear h1 hl
        go_enter Tryz.func31, Tryz.ntmps31
        go_wp2
        refine wp_loop_rounds 1 ?_
        rw [rounds_succ]
        go_wp2
        go_ret
        exact ⟨by simp, Below.refl _ _⟩
      · rw [← hl]
        have hl' : Hid (xs.length = ys.length) := hl
        clear hl
        go_enter Tryz.func31, Tryz.ntmps31
        go_wp2
        go_loopw [5] (fun i wr => ∃ k : Nat, k ≤ xs.length ∧ i = .int .i64 k ∧ xs.take k = ys.take k ∧ Below w.heap.size w wr) (fun i _ => xs.length - (intOf i).toNat)
        case atStart => exact ⟨0, by omega, rfl, by simp, Below.refl _ _⟩
        case round =>
          obtain ⟨k, hk, rfl, ht, hB⟩ := hrel
          have ht' : Hid (xs.take k = ys.take k) := ht
          clear ht
          by_cases hlt : k < xs.length
          · have e1 : wr.cell? ⟨b1, o1 + k, none⟩ = some (.string (xs.getD k noS)) := by rw [(bcell hB).1 _ _ hb1]; exact h1 k hlt
            have e2 : wr.cell? ⟨b2, o2 + k, none⟩ = some (.string (ys.getD k noS)) := by rw [(bcell hB).1 _ _ hb2]; exact h2 k (by rw [← hl'.out]; exact hlt)
            obtain ⟨x, hxk⟩ : ∃ x, xs.getD k noS = x := ⟨_, rfl⟩
            obtain ⟨y, hyk⟩ : ∃ y, ys.getD k noS = y := ⟨_, rfl⟩
            rw [hxk] at e1
            rw [hyk] at e2
            have hxk' : Hid (xs.getD k noS = x) := hxk
            have hyk' : Hid (ys.getD k noS = y) := hyk
            clear hxk hyk h1 h2
            have i1 : (0 : Int) ≤ (k : Int) := by omega
            have i2 : (k : Int) < (xs.length : Int) := by omega
            by_cases hxy : x = y
            · subst hxy
              go_wp2
              go_quiet (fail)
              go_wp2
              go_roundw
              case rel => exact ⟨k + 1, by omega, by go_num, take_eq_stepS hlt (by rw [← hl'.out]; exact hlt) ht'.out (by rw [hxk'.out, hyk'.out]), below_drewN hB _⟩
              case measure => simp [intOf]; omega
            · have hxy' := str_bne hxy
              have hne : Hid (¬ xs = ys) := fun e => hxy (by rw [← hxk'.out, ← hyk'.out, e])
              go_wp2
              go_quiet (fail)
              go_wp2
              go_ret
              exact ⟨ret_bool (decide_eq_false hne.out).symm, below_drewN hB _⟩
          · have hkl : k = xs.length := by omega
            have hee : Hid (xs = ys) := by
              have h := ht'.out
              rw [hkl, List.take_length] at h
              rw [hl'.out, List.take_length] at h
              exact h
            clear hkl
            go_wp2
            go_ret
            exact ⟨ret_bool (decide_eq_true hee.out).symm, hB⟩
  · obtain ⟨a1, c1, rfl, _⟩ := ha
    obtain ⟨a2, c2, rfl, _⟩ := hb
    simp only [List.length_map]
    have hne : Hid (¬ xs = ys) := fun e => hl (by rw [e])
    have hl' : ((xs.length : Int) != (ys.length : Int)) = true := by simp; omega
    go_enter Tryz.func31, Tryz.ntmps31
    go_wp2
    go_ret
    exact ⟨ret_bool (decide_eq_false hne.out).symm, Below.refl _ _⟩
end Go.Proofs.YtdgnhplaakjlgaaGreatDoor
