/- Contracts: the reference's lines that can be printed. -/
import Derived.Test.YthpchphncelkpaaDoorLines
namespace Go.Proofs.YthpchphncelkpaaDoor
set_option linter.unusedVariables false
open Go.RowKit

theorem endsB_nil {y : ByteArray} (h : y.size = 0) : endsB y = false := by
  have : y.data.toList = [] := List.eq_nil_of_length_eq_zero (by rw [size_data]; exact h)
  unfold endsB Lib.hasSuffix
  rw [this]; rfl
theorem endsB_last {y : ByteArray} (h : y.size - 1 < y.size) : endsB y = ((y[y.size - 1].toNat : Int) == 32) := by
  unfold endsB Lib.hasSuffix
  have hne : y.data.toList ≠ [] := fun e => by have := size_data y; rw [e] at this; simp at this; omega
  have hl : y.data.toList = y.data.toList.dropLast ++ [y.data.toList.getLast hne] := (List.dropLast_concat_getLast hne).symm
  have hg : y.data.toList.getLast hne = y[y.size - 1] := by
    rw [List.getLast_eq_getElem]
    show y.data.toList[y.data.toList.length - 1] = y.data[y.size - 1]
    simp only [size_data]
    exact Array.getElem_toList (xs := y.data) (i := y.size - 1) h
  rw [hg] at hl
  rw [hl]
  generalize y[y.size - 1] = b
  by_cases e : b = 32
  · subst e
    have : ([32] : List UInt8).isSuffixOf (y.data.toList.dropLast ++ [32]) = true := List.isSuffixOf_iff_suffix.2 ⟨_, rfl⟩
    rw [this]; rfl
  · have h1 : ([32] : List UInt8).isSuffixOf (y.data.toList.dropLast ++ [b]) = false := by
      rw [← Bool.not_eq_true]
      intro h
      obtain ⟨t, ht⟩ := List.isSuffixOf_iff_suffix.1 h
      have := congrArg List.getLast? ht
      simp at this
      exact e this.symm
    have h2 : ((b.toNat : Int) == 32) = false := beq_eq_false_iff_ne.2 (fun q => e (by
      have : b.toNat = 32 := by omega
      exact UInt8.toNat_inj.1 this))
    rw [h1, h2]
theorem lvB_of {y : ByteArray} (hall : y.data.toList.all okB = true) : lvB y = (decide (y.size ≤ 100) && !endsB y) := by
  unfold lvB; rw [hall]; simp

set_option maxHeartbeats 800000 in
theorem c_spec_LinesValid (v : Value) (xs : List ByteArray) (w : World) (ha : RdS w v xs) (hx : xs.length ≤ 9223372036854775807) (hs : ∀ s ∈ xs, s.size ≤ 9223372036854775807) :
    Calls Tryd.prog 29 #[v] w fun e w' => e = .returned (.bool (linesB xs)) ∧ Below w.heap.size w w' := by
  have ha0 := ha.op
  obtain ⟨a, cap, rfl, _⟩ := ha
  simp only [List.length_map] at ha0 ⊢
  go_enter Tryd.func29, Tryd.ntmps29
  go_wp2
  go_loopw [3, 4] (fun i j wr => ∃ k : Nat, k ≤ xs.length ∧ i = .int .i64 k ∧ (xs.take k).all lvB = true ∧ Below w.heap.size w wr) (fun i _ _ => xs.length - (intOf i).toNat)
  case atStart => exact ⟨0, by omega, rfl, rfl, Below.refl _ _⟩
  case round =>
    obtain ⟨k, hk, rfl, hall, hB⟩ := hrel
    have HA : Hid _ := hall
    clear hall
    by_cases hlt : k < xs.length
    · rcases ha0 with ⟨a', cap', e1, rfl⟩ | ⟨b1, o1, c1, e0, hb1, hc1⟩
      · simp at hlt
      · simp only [Value.slice.injEq] at e0
        obtain ⟨rfl, _, rfl⟩ := e0
        have e1 : wr.cell? ⟨b1, o1 + k, none⟩ = some (.string (xs.getD k noS)) := by rw [(bcell hB).1 _ _ hb1]; exact hc1 k hlt
        have hsz : (xs.getD k noS).size ≤ 9223372036854775807 := hs _ (by simp [List.getD, hlt])
        have ht := all_take_succ lvB xs k hlt
        have hg := getD_getElem noS hlt
        obtain ⟨y, hy⟩ : ∃ y, xs[k] = y := ⟨_, rfl⟩
        rw [hy] at hg ht
        rw [hg] at e1 hsz
        have HY : Hid ((lvB y = false → linesB xs = false) ∧ (xs.take (k + 1)).all lvB = lvB y) := ⟨fun hv => by show _ = _; unfold linesB; rw [all_false_at hlt (by rw [hy]; exact hv)]; simp, by rw [ht, HA.out]; rfl⟩
        clear ht hc1 hg hy hs HA
        obtain ⟨wo, rfl⟩ : ∃ wo : World, wo = wr := ⟨_, rfl⟩
        go_wp2
        go_loop [4] (fun j => ∃ m : Nat, m ≤ y.size ∧ j = .int .i64 m ∧ (y.data.toList.take m).all okB = true) (fun j => y.size - (intOf j).toNat)
        case atStart => exact ⟨0, by omega, rfl, rfl⟩
        case round =>
          obtain ⟨m, hm, rfl, hall⟩ := hrel
          have HM : Hid _ := hall
          clear hall
          by_cases hmt : m < y.size
          · have hlt' : m < y.data.toList.length := by rw [size_data]; exact hmt
            have ha := all_take_succ okB y.data.toList m hlt'
            have he : y.data.toList[m] = y[m] := rfl
            rw [he] at ha
            by_cases hb : okB y[m] = true
            · have hb2 : 32 ≤ (y[m].toNat : Int) ∧ (y[m].toNat : Int) ≤ 126 := by simpa [okB] using hb
              obtain ⟨b1, b2⟩ := hb2
              have HN : Hid ((y.data.toList.take (m + 1)).all okB = true) := by show _ = true; rw [ha, HM.out, hb]; rfl
              clear ha hb he
              go_wp2
              go_round
              case rel => exact ⟨m + 1, by omega, by go_num, HN.out⟩
              case measure => simp [intOf]; omega
            · have hf : Hid (linesB xs = false) := HY.out.1 (by unfold lvB; rw [all_false_at hlt' (by rw [he]; simpa using hb)]; simp)
              have hb2 : (y[m].toNat : Int) < 32 ∨ 32 ≤ (y[m].toNat : Int) ∧ 126 < (y[m].toNat : Int) := by
                have : ¬ (32 ≤ (y[m].toNat : Int) ∧ (y[m].toNat : Int) ≤ 126) := fun q => hb (decide_eq_true q)
                omega
              clear ha hb he
              rcases hb2 with hb2 | ⟨hb2, hb3⟩
              all_goals
                go_wp2
                go_ret
                exact ⟨by rw [hf.out]; rfl, hB⟩
          · have hL : Hid (lvB y = (decide (y.size ≤ 100) && !endsB y)) := lvB_of (by
              have h := HM.out
              rwa [List.take_of_length_le (by rw [size_data]; omega)] at h)
            have i1 : (0 : Int) ≤ (k : Int) := by omega
            have i2 : (k : Int) < (xs.length : Int) := by omega
            by_cases h1 : 100 < y.size
            · have hf : Hid (linesB xs = false) := HY.out.1 (by rw [hL.out]; simp; omega)
              have h1' : (100 : Int) < (y.size : Int) := by omega
              go_wp2
              go_quiet (fail)
              go_wp2
              go_ret
              exact ⟨by rw [hf.out]; rfl, below_drewN hB _⟩
            · have h1' : (y.size : Int) ≤ 100 := by omega
              by_cases h0 : y.size = 0
              · have hT : Hid ((xs.take (k + 1)).all lvB = true) := by show _ = true; rw [HY.out.2, hL.out, endsB_nil h0, decide_eq_true (by omega)]; rfl
                have ht : y.data = #[] := Array.eq_empty_of_size_eq_zero h0
                obtain rfl : y = ⟨#[]⟩ := ByteArray.ext ht
                clear ht h0
                go_wp2
                go_quiet (fail)
                go_wp2
                go_roundw
                case rel => exact ⟨k + 1, by omega, by go_num, hT.out, below_drewN hB _⟩
                case measure => simp [intOf]; omega
              · have hlz : y.size - 1 < y.size := by omega
                have hE := endsB_last hlz
                have hn1 : y.toList ≠ [] := fun e => by rw [ByteArray.toList_eq] at e; have := size_data y; rw [e] at this; simp at this; omega
                have hn2 : (y.toList == []) = false := beq_eq_false_iff_ne.2 hn1
                have hn3 : y.toList.isEmpty = false := by simpa using hn1
                have hc1 : (y.size : Int) - 1 = ((y.size - 1 : Nat) : Int) := by omega
                have hw : IntKind.i64.wrap ((y.size : Int) - 1) = ((y.size - 1 : Nat) : Int) := by rw [IntWalk.i64_in _ (by omega)]; exact hc1
                have i3 : (0 : Int) ≤ ((y.size - 1 : Nat) : Int) := by omega
                have i4 : ((y.size - 1 : Nat) : Int) < (y.size : Int) := by omega
                cases he : ((y[y.size - 1].toNat : Int) == 32)
                · have hT : Hid ((xs.take (k + 1)).all lvB = true) := by show _ = true; rw [HY.out.2, hL.out, hE, he, decide_eq_true (by omega)]; rfl
                  clear hE hn1 hc1
                  go_wp2
                  go_quiet (fail)
                  go_wp2
                  go_roundw
                  case rel => exact ⟨k + 1, by omega, by go_num, hT.out, below_drewN hB _⟩
                  case measure => simp [intOf]; omega
                · have hf : Hid (linesB xs = false) := HY.out.1 (by rw [hL.out, hE, he]; simp)
                  clear hE hn1 hc1
                  go_wp2
                  go_quiet (fail)
                  go_wp2
                  go_ret
                  exact ⟨by rw [hf.out]; rfl, below_drewN hB _⟩
    · have HT : Hid (linesB xs = decide ((xs.length : Int) ≤ 40)) := by
        show linesB xs = _
        have h := HA.out
        rw [List.take_of_length_le (by omega)] at h
        unfold linesB
        rw [h, Bool.and_true]
        apply decide_eq_decide.2
        omega
      clear ha0
      go_wp2
      go_ret
      exact ⟨by rw [HT.out]; rfl, hB⟩
end Go.Proofs.YthpchphncelkpaaDoor
