/- Contracts of the laws' own helpers on slices of strings: equal, measured, copied. -/
import Derived.Test.YtmmbdkllolhfhaaDoorMark
namespace Go.Proofs.YtmmbdkllolhfhaaDoor
set_option linter.unusedVariables false
open Go.RowKit

theorem infoStr : (Tryd.prog.info? 9).map (fun i => (i.zero, i.size, i.bytes)) = some (some (.string ByteArray.empty), 1, 16) := by kernel_rfl
def noS : ByteArray := ByteArray.empty
/-- .. as a list of strings -/
def RdS (w : World) (v : Value) (xs : List ByteArray) : Prop := RdL w v (xs.map Value.string)
theorem RdS.kept {w w' : World} {v : Value} {xs : List ByteArray} (h : RdS w v xs) (hb : Below w.heap.size w w') : RdS w' v xs := RdL.kept h hb
theorem RdS.nil (w : World) (a : Option Addr) (cap : Nat) : RdS w (.slice a 0 cap) [] := ⟨a, cap, rfl, .inl rfl⟩
/-- opened: the value's shape; where there is an element, its cells -/
theorem RdS.op {w : World} {v : Value} {xs : List ByteArray} (h : RdS w v xs) :
    (∃ a cap, v = .slice a 0 cap ∧ xs = []) ∨ ∃ b off cap, v = .slice (some ⟨b, off, none⟩) xs.length cap ∧ b < w.heap.size ∧ ∀ i, i < xs.length → w.cell? ⟨b, off + i, none⟩ = some (.string (xs.getD i noS)) := by
  obtain ⟨a, cap, rfl, h⟩ := h
  rcases h with h | ⟨b, off, rfl, hlt, h⟩
  · have h : xs = [] := by simpa using h
    subst h
    exact .inl ⟨a, cap, rfl, rfl⟩
  · refine .inr ⟨b, off, cap, by simp, hlt, fun i hi => ?_⟩
    rw [h i (by simpa using hi)]
    simp [List.getD, hi]
abbrev OwnS (w : World) (base : Nat) (v : Value) (xs : List ByteArray) : Prop := w.ownsRow base 9 1 v xs.length (xs.map Value.string)
theorem owns_RdS {w : World} {base : Nat} {e : TypeId} {v : Value} {n : Nat} {xs : List ByteArray} (h : w.ownsRow base e 1 v n (xs.map Value.string)) : RdS w v xs := owns_RdL h

/-- the sum of the lengths -/
def tot (xs : List ByteArray) : Nat := (xs.map ByteArray.size).sum
theorem tot_succ (xs : List ByteArray) (k : Nat) (h : k < xs.length) : tot (xs.take (k + 1)) = tot (xs.take k) + (xs.getD k noS).size := by
  unfold tot
  rw [List.take_add_one]
  simp [List.getD, h]
  rw [List.take_add_one]
  simp [h]
theorem tot_le (xs : List ByteArray) (k : Nat) : tot (xs.take k) ≤ tot xs := by
  have : tot xs = tot (xs.take k) + tot (xs.drop k) := by
    unfold tot
    rw [← List.sum_append, ← List.map_append, List.take_append_drop]
  omega
theorem tot_mem {xs : List ByteArray} {s : ByteArray} (h : s ∈ xs) : s.size ≤ tot xs := by
  induction xs with
  | nil => cases h
  | cons x xs ih =>
    unfold tot at ih ⊢
    simp only [List.map_cons, List.sum_cons]
    rcases List.mem_cons.1 h with rfl | h
    · omega
    · have := ih h; omega
theorem tot_getD (xs : List ByteArray) (k : Nat) : (xs.getD k noS).size ≤ tot xs := by
  by_cases h : k < xs.length
  · apply tot_mem; simp [List.getD, h]
  · have : (xs.getD k noS) = noS := by simp [List.getD, h]
    rw [this]; exact Nat.zero_le _
def szR (xs : List ByteArray) (L : Int) : Int := if (xs.length : Int) + tot xs ≤ L then L - xs.length - tot xs else -1

theorem str_beq (s : ByteArray) : (s.toList == s.toList) = true := by simp
theorem str_bne {s t : ByteArray} (h : s ≠ t) : (s.toList == t.toList) = false := by
  rw [beq_eq_false_iff_ne]
  intro e
  apply h
  rw [ByteArray.toList_eq, ByteArray.toList_eq] at e
  exact ByteArray.ext (Array.ext' e)
theorem take_eq_stepS {xs ys : List ByteArray} {k : Nat} (h1 : k < xs.length) (h2 : k < ys.length) (h : xs.take k = ys.take k) (e : xs.getD k noS = ys.getD k noS) : xs.take (k + 1) = ys.take (k + 1) := by
  rw [List.take_add_one, List.take_add_one, h]
  simp [List.getD, h1, h2] at e
  simp [h1, h2, e]

set_option maxHeartbeats 400000 in
theorem c_eqStringS (va vb : Value) (xs ys : List ByteArray) (w : World) (ha : RdS w va xs) (hb : RdS w vb ys) (hx : xs.length ≤ 9223372036854775807) (hy : ys.length ≤ 9223372036854775807) :
    Calls Tryd.prog 14 #[va, vb] w fun e w' => e = .returned (.bool (decide (xs = ys))) ∧ Below w.heap.size w w' := by
  by_cases hl : xs.length = ys.length
  · have ha0 := ha.op
    have hb0 := hb.op
    clear ha hb
    rcases ha0 with ⟨a, cap, rfl, rfl⟩ | ⟨b1, o1, c1, rfl, hb1, h1⟩
    · have hy0 : ys = [] := List.eq_nil_of_length_eq_zero (by simpa using hl.symm)
      subst hy0
      have : ∃ a c, vb = .slice a 0 c := by rcases hb0 with ⟨a, c, e, _⟩ | ⟨b, o, c, e, _⟩ <;> exact ⟨_, _, e⟩
      obtain ⟨a', c', rfl⟩ := this
      clear hb0 hl
      go_enter Tryd.func14, Tryd.ntmps14
      go_wp2
      refine wp_loop_rounds 1 ?_
      rw [rounds_succ]
      go_wp2
      go_ret
      exact ⟨by simp, Below.refl _ _⟩
    · rcases hb0 with ⟨a, cap, rfl, rfl⟩ | ⟨b2, o2, c2, rfl, hb2, h2⟩
      · have hx0 : xs = [] := List.eq_nil_of_length_eq_zero (by simpa using hl)
        subst hx0
        clear h1 hl
        go_enter Tryd.func14, Tryd.ntmps14
        go_wp2
        refine wp_loop_rounds 1 ?_
        rw [rounds_succ]
        go_wp2
        go_ret
        exact ⟨by simp, Below.refl _ _⟩
      · rw [← hl]
        have hl' : Hid (xs.length = ys.length) := hl
        clear hl
        go_enter Tryd.func14, Tryd.ntmps14
        go_wp2
        go_loopw [5] (fun i wr => ∃ k : Nat, k ≤ xs.length ∧ i = .int .i64 k ∧ xs.take k = ys.take k ∧ Below w.heap.size w wr) (fun i _ => xs.length - (intOf i).toNat)
        case atStart => exact ⟨0, by omega, rfl, by simp, Below.refl _ _⟩
        case round =>
          obtain ⟨k, hk, rfl, ht, hB⟩ := hrel
          have ht' : Hid (xs.take k = ys.take k) := ht
          clear ht
          by_cases hlt : k < xs.length
          · have e1 : wr.cell? ⟨b1, o1 + k, none⟩ = some (.string (xs.getD k noS)) := by rw [(bcell hB).1 _ _ hb1]; exact h1 k hlt
            have e2 : wr.cell? ⟨b2, o2 + k, none⟩ = some (.string (ys.getD k noS)) := by rw [(bcell hB).1 _ _ hb2]; exact h2 k (by rw [← hl'.out]; exact hlt)
            obtain ⟨x, hxk⟩ : ∃ x, xs.getD k noS = x := ⟨_, rfl⟩
            obtain ⟨y, hyk⟩ : ∃ y, ys.getD k noS = y := ⟨_, rfl⟩
            rw [hxk] at e1
            rw [hyk] at e2
            have hxk' : Hid (xs.getD k noS = x) := hxk
            have hyk' : Hid (ys.getD k noS = y) := hyk
            clear hxk hyk h1 h2
            have i1 : (0 : Int) ≤ (k : Int) := by omega
            have i2 : (k : Int) < (xs.length : Int) := by omega
            by_cases hxy : x = y
            · subst hxy
              go_wp2
              go_quiet (fail)
              go_wp2
              go_roundw
              case rel => exact ⟨k + 1, by omega, by go_num, take_eq_stepS hlt (by rw [← hl'.out]; exact hlt) ht'.out (by rw [hxk'.out, hyk'.out]), below_drewN hB _⟩
              case measure => simp [intOf]; omega
            · have hxy' := str_bne hxy
              have hne : Hid (¬ xs = ys) := fun e => hxy (by rw [← hxk'.out, ← hyk'.out, e])
              go_wp2
              go_quiet (fail)
              go_wp2
              go_ret
              exact ⟨ret_bool (decide_eq_false hne.out).symm, below_drewN hB _⟩
          · have hkl : k = xs.length := by omega
            have hee : Hid (xs = ys) := by
              have h := ht'.out
              rw [hkl, List.take_length] at h
              rw [hl'.out, List.take_length] at h
              exact h
            clear hkl
            go_wp2
            go_ret
            exact ⟨ret_bool (decide_eq_true hee.out).symm, hB⟩
  · obtain ⟨a1, c1, rfl, _⟩ := ha
    obtain ⟨a2, c2, rfl, _⟩ := hb
    simp only [List.length_map]
    have hne : Hid (¬ xs = ys) := fun e => hl (by rw [e])
    have hl' : ((xs.length : Int) != (ys.length : Int)) = true := by simp; omega
    go_enter Tryd.func14, Tryd.ntmps14
    go_wp2
    go_ret
    exact ⟨ret_bool (decide_eq_false hne.out).symm, Below.refl _ _⟩

/-- both read as one list: true -/
theorem c_eqStringS_t (va vb : Value) (xs : List ByteArray) (w : World) (ha : RdS w va xs) (hb : RdS w vb xs) (hx : xs.length ≤ 1099511627776) :
    Calls Tryd.prog 14 #[va, vb] w fun e w' => e = .returned (.bool true) ∧ Below w.heap.size w w' :=
  (c_eqStringS va vb xs xs w ha hb (by omega) (by omega)).mono fun _ _ ⟨h1, h2⟩ => ⟨by rw [h1]; simp, h2⟩
theorem k_eq_strs (va vb : Value) (ba bb : Nat) (xs : List ByteArray) (w : World) (ha : OwnS w ba va xs) (hb : OwnS w bb vb xs) (hx : xs.length ≤ 1099511627776) :
    Calls Tryd.prog 14 #[va, vb] w fun e w' => e = .returned (.bool true) ∧ Below w.heap.size w w' := c_eqStringS_t va vb xs w (owns_RdS ha) (owns_RdS hb) hx
end Go.Proofs.YtmmbdkllolhfhaaDoor
