/- Contracts of columns: the number that a column stands for, the column of a number, sums of columns; program and reference. -/
import Derived.Test.YthjehjdcpfefcaaEng1
namespace Go.Proofs.Ythjehjdcpfefcaa
set_option linter.unusedVariables false
open Go.RowKit

theorem colS_bd {k : Nat} (v : Int) (hk : k ≤ 12) : (colS k v).size ≤ 9223372036854775807 := by rw [colS_size]; omega
theorem c_l1ValueC (k : Nat) (v : Int) (w : World) (h1 : 1 ≤ k) (h2 : k ≤ 12) :
    Calls Try.prog 95 #[.string (colS k v)] w fun e w' => e = .returned (.int .i64 (v % ten k)) ∧ w = w' := by
  have h := c_l1Value (colS k v) w (colB_colS v h1 h2)
  rwa [colS_list, cv_colL] at h
theorem c_ValueOfC (k : Nat) (v : Int) (w : World) (h1 : 1 ≤ k) (h2 : k ≤ 12) :
    Calls Try.prog 112 #[.string (colS k v)] w fun e w' => e = .returned (.int .i64 (v % ten k)) ∧ w = w' := by
  have h := c_ValueOf (colS k v) w (colB_colS v h1 h2)
  rwa [colS_list, cv_colL] at h
theorem c_ColumnValidC (k : Nat) (v : Int) (w : World) (h1 : 1 ≤ k) (h2 : k ≤ 12) :
    Calls Try.prog 101 #[.string (colS k v)] w fun e w' => e = .returned (.bool true) ∧ w = w' := by
  have h := c_impl_ColumnValid (colS k v) w (colS_bd v h2)
  rwa [colB_colS v h1 h2] at h
theorem c_sColumnValidC (k : Nat) (v : Int) (w : World) (h1 : 1 ≤ k) (h2 : k ≤ 12) :
    Calls Try.prog 83 #[.string (colS k v)] w fun e w' => e = .returned (.bool true) ∧ w = w' := by
  have h := c_spec_ColumnValid (colS k v) w (colS_bd v h2)
  rwa [colB_colS v h1 h2] at h
theorem c_alikeC (k : Nat) (a b : Int) (w : World) (h1 : 1 ≤ k) (h2 : k ≤ 12) :
    Calls Try.prog 87 #[.string (colS k a), .string (colS k b)] w fun e w' => e = .returned (.bool true) ∧ w = w' := by
  have h := c_alike (colS k a) (colS k b) w (colS_bd a h2) (colS_bd b h2)
  have e : alikeB (colS k a) (colS k b) = true := by
    unfold alikeB
    rw [colB_colS a h1 h2, colB_colS b h1 h2, colS_size, colS_size]
    simp
  rwa [e] at h

set_option maxRecDepth 20000 in
set_option maxHeartbeats 400000 in
theorem c_SignedOf (k : Nat) (v : Int) (w : World) (h1 : 1 ≤ k) (h2 : k ≤ 12) :
    Calls Try.prog 110 #[.string (colS k v)] w fun e w' => e = .returned (.tuple #[.int .i64 (sg k v), .bool true]) ∧ w = w' := by
  have hT := ten_bd (k := k) (by omega)
  have hm := mod_bds k v
  have HC := hidd (c_ColumnValidC k v w h1 h2)
  have HP := hidd (c_powerOfTen k w (by omega))
  have HV := hidd (c_ValueOfC k v w h1 h2)
  have HS : Hid (sg k v = if ten k / 2 ≤ v % ten k then v % ten k - ten k else v % ten k) := rfl
  have hsz : ((colS k v).size : Int) = (k : Int) := by rw [colS_size]
  obtain ⟨s, hs⟩ : ∃ s, colS k v = s := ⟨_, rfl⟩
  rw [hs] at HC HV hsz ⊢
  obtain ⟨T, hT'⟩ : ∃ T, ten k = T := ⟨_, rfl⟩
  obtain ⟨m, hm'⟩ : ∃ m, v % ten k = m := ⟨_, rfl⟩
  rw [hm'] at hm HV HS
  rw [hT'] at hT hm HP HS
  clear hs hT' hm'
  by_cases hc : T / 2 ≤ m
  · have HE : Hid (sg k v = m - T) := by show _ = _; rw [HS.out, if_pos hc]
    go_enter Try.func110, Try.ntmps110
    go_wp2_with fail
    refine HC.out.mono ?_
    rintro e w' ⟨rfl, rfl⟩
    go_wp2_with fail
    refine HP.out.mono ?_
    rintro e w' ⟨rfl, rfl⟩
    go_wp2_with fail
    refine HV.out.mono ?_
    rintro e w' ⟨rfl, rfl⟩
    go_wp2
    go_ret2
    exact ⟨by rw [HE.out]; rfl, rfl⟩
  · have HE : Hid (sg k v = m) := by show _ = _; rw [HS.out, if_neg hc]
    go_enter Try.func110, Try.ntmps110
    go_wp2_with fail
    refine HC.out.mono ?_
    rintro e w' ⟨rfl, rfl⟩
    go_wp2_with fail
    refine HP.out.mono ?_
    rintro e w' ⟨rfl, rfl⟩
    go_wp2_with fail
    refine HV.out.mono ?_
    rintro e w' ⟨rfl, rfl⟩
    go_wp2
    go_ret2
    exact ⟨by rw [HE.out]; rfl, rfl⟩
set_option maxRecDepth 20000 in
set_option maxHeartbeats 400000 in
theorem c_l1Signed (k : Nat) (v : Int) (w : World) (h1 : 1 ≤ k) (h2 : k ≤ 12) :
    Calls Try.prog 70 #[.string (colS k v)] w fun e w' => e = .returned (.int .i64 (sg k v)) ∧ w = w' := by
  have hT := ten_bd (k := k) (by omega)
  have hm := mod_bds k v
  have HP := hidd (c_l1Ten k w (by omega))
  have HV := hidd (c_l1ValueC k v w h1 h2)
  have HS : Hid (sg k v = if ten k / 2 ≤ v % ten k then v % ten k - ten k else v % ten k) := rfl
  have hsz : ((colS k v).size : Int) = (k : Int) := by rw [colS_size]
  obtain ⟨s, hs⟩ : ∃ s, colS k v = s := ⟨_, rfl⟩
  rw [hs] at HV hsz ⊢
  obtain ⟨T, hT'⟩ : ∃ T, ten k = T := ⟨_, rfl⟩
  obtain ⟨m, hm'⟩ : ∃ m, v % ten k = m := ⟨_, rfl⟩
  rw [hm'] at hm HV HS
  rw [hT'] at hT hm HP HS
  clear hs hT' hm'
  by_cases hc : T / 2 ≤ m
  · have HE : Hid (sg k v = m - T) := by show _ = _; rw [HS.out, if_pos hc]
    go_enter Try.func70, Try.ntmps70
    go_wp2_with fail
    refine HV.out.mono ?_
    rintro e w' ⟨rfl, rfl⟩
    go_wp2_with fail
    refine HP.out.mono ?_
    rintro e w' ⟨rfl, rfl⟩
    go_wp2_with fail
    refine HP.out.mono ?_
    rintro e w' ⟨rfl, rfl⟩
    go_wp2
    go_ret
    exact ⟨ret_int HE.out.symm, rfl⟩
  · have HE : Hid (sg k v = m) := by show _ = _; rw [HS.out, if_neg hc]
    go_enter Try.func70, Try.ntmps70
    go_wp2_with fail
    refine HV.out.mono ?_
    rintro e w' ⟨rfl, rfl⟩
    go_wp2_with fail
    refine HP.out.mono ?_
    rintro e w' ⟨rfl, rfl⟩
    go_wp2
    go_ret
    exact ⟨ret_int HE.out.symm, rfl⟩
theorem c_signed (k : Nat) (v : Int) (w : World) (h1 : 1 ≤ k) (h2 : k ≤ 12) :
    Calls Try.prog 94 #[.string (colS k v)] w fun e w' => e = .returned (.int .i64 (sg k v)) ∧ w = w' := by
  have HC := hidd (c_SignedOf k v w h1 h2)
  go_enter Try.func94, Try.ntmps94
  go_wp2_with fail
  refine HC.out.mono ?_
  rintro e w' ⟨rfl, rfl⟩
  go_wp2
  go_ret
  exact ⟨rfl, rfl⟩

theorem half_neg {T : Int} (h : T = 2 * (T / 2)) (h0 : 0 ≤ T) : (-T).tdiv 2 = -(T / 2) := by
  rw [Int.neg_tdiv, Int.tdiv_eq_ediv_of_nonneg h0]
def ColR (k : Nat) (n : Int) (w : World) (e : Ending) (w' : World) : Prop := e = .returned (.tuple #[.string (colS k n), .bool true]) ∧ Below w.heap.size w w'
def ColN (w : World) (e : Ending) (w' : World) : Prop := e = .returned (.tuple #[.string ⟨#[]⟩, .bool false]) ∧ Below w.heap.size w w'
set_option maxRecDepth 20000 in
set_option maxHeartbeats 400000 in
theorem c_ColumnOf_t (n : Int) (k : Nat) (w : World) (h1 : 1 ≤ k) (h2 : k ≤ 12) (hf : fitB n k = true) :
    Calls Try.prog 41 #[(.int .i64 (n)), (.int .i64 ((k : Int)))] w (ColR k n w) := by
  obtain ⟨f1, f2⟩ := fitB_iff.1 hf
  obtain ⟨t1, t2⟩ := ten_even h1
  have hT := ten_bd (k := k) (by omega)
  have hm := mod_bds k n
  have HW : Hid (Calls Try.prog 28 #[(.int .i64 ((k : Int)))] w fun e w' => e = .returned (.bool true) ∧ w = w') := by
    have h := c_widthValid (k : Int) w
    rwa [inB_t (by omega) (by omega)] at h
  have HP := hidd (c_powerOfTen k w (by omega))
  have HM := hidd (c_modulo n (ten k) w hT.1 hT.2)
  have hq := half_neg t1 (by omega)
  obtain ⟨m, hmm⟩ : ∃ m : Nat, n % ten k = m := ⟨(n % ten k).toNat, by omega⟩
  have HSh : Hid (Calls Try.prog 74 #[.int .i64 m, .int .i64 k] w fun e w' => e = .returned (.string (colS k n)) ∧ Below w.heap.size w w') := by
    have h := c_showNumber m k w h1 h2 (by omega)
    rw [← hmm, colS_emod] at h
    rw [← hmm]
    exact h
  rw [hmm] at HM
  obtain ⟨T, hT'⟩ : ∃ T, ten k = T := ⟨_, rfl⟩
  rw [hT'] at hT HP HM hq f1 f2
  clear hmm hT' t1 t2 hm hf
  go_enter Try.func41, Try.ntmps41
  go_wp2_with fail
  refine HW.out.mono ?_
  rintro e w' ⟨rfl, rfl⟩
  go_wp2_with fail
  refine HP.out.mono ?_
  rintro e w' ⟨rfl, rfl⟩
  go_wp2_with fail
  refine HM.out.mono ?_
  rintro e w' ⟨rfl, rfl⟩
  go_wp2_with fail
  refine HSh.out.mono ?_
  rintro e w' ⟨rfl, hB⟩
  go_wp2
  go_ret2
  exact ⟨rfl, hB⟩
set_option maxRecDepth 20000 in
set_option maxHeartbeats 400000 in
theorem c_ColumnOf_f (n : Int) (k : Nat) (w : World) (h1 : 1 ≤ k) (h2 : k ≤ 12) (hf : fitB n k = false) :
    Calls Try.prog 41 #[(.int .i64 (n)), (.int .i64 ((k : Int)))] w (ColN w) := by
  have hff : ¬ (-(ten k / 2) ≤ n ∧ n < ten k / 2) := fun h => by rw [fitB_iff.2 h] at hf; cases hf
  obtain ⟨t1, t2⟩ := ten_even h1
  have hT := ten_bd (k := k) (by omega)
  have HW : Hid (Calls Try.prog 28 #[(.int .i64 ((k : Int)))] w fun e w' => e = .returned (.bool true) ∧ w = w') := by
    have h := c_widthValid (k : Int) w
    rwa [inB_t (by omega) (by omega)] at h
  have HP := hidd (c_powerOfTen k w (by omega))
  have hq := half_neg t1 (by omega)
  obtain ⟨T, hT'⟩ : ∃ T, ten k = T := ⟨_, rfl⟩
  rw [hT'] at hT HP hq hff
  clear hT' t1 t2 hf
  by_cases hl : n < -(T / 2)
  all_goals
    have HF : Hid (¬ (-(T / 2) ≤ n ∧ n < T / 2)) := hff
    have hg : T / 2 ≤ n ∨ n < -(T / 2) := by omega
    clear hff
    rcases hg with hg | hg
    all_goals
      go_enter Try.func41, Try.ntmps41
      go_wp2_with fail
      refine HW.out.mono ?_
      rintro e w' ⟨rfl, rfl⟩
      go_wp2_with fail
      refine HP.out.mono ?_
      rintro e w' ⟨rfl, rfl⟩
      go_wp2
      go_ret2
      exact ⟨rfl, Below.refl _ _⟩
set_option maxRecDepth 20000 in
set_option maxHeartbeats 400000 in
theorem c_ColumnOf_w (n k : Int) (w : World) (h : inB k 1 12 = false) :
    Calls Try.prog 41 #[(.int .i64 (n)), (.int .i64 (k))] w (ColN w) := by
  have HW := c_widthValid k w
  rw [h] at HW
  have HW := hidd HW
  clear h
  go_enter Try.func41, Try.ntmps41
  go_wp2_with fail
  refine HW.out.mono ?_
  rintro e w' ⟨rfl, rfl⟩
  go_wp2
  go_ret2
  exact ⟨rfl, Below.refl _ _⟩

set_option maxRecDepth 20000 in
set_option maxHeartbeats 400000 in
theorem c_l1Fits (n : Int) (k : Nat) (w : World) (h1 : 1 ≤ k) (h2 : k ≤ 12) :
    Calls Try.prog 81 #[(.int .i64 (n)), (.int .i64 ((k : Int)))] w fun e w' => e = .returned (.bool (fitB n k)) ∧ w = w' := by
  have HF : Hid (fitB n k = decide (-(ten k / 2) ≤ n ∧ n < ten k / 2)) := rfl
  have hT := ten_bd (k := k) (by omega)
  have HP := hidd (c_l1Ten k w (by omega))
  obtain ⟨T, hT'⟩ : ∃ T, ten k = T := ⟨_, rfl⟩
  rw [hT'] at hT HP HF
  clear hT'
  by_cases hl : -(T / 2) ≤ n
  · by_cases hr : n < T / 2
    all_goals
      go_enter Try.func81, Try.ntmps81
      go_wp2_with fail
      refine HP.out.mono ?_
      rintro e w' ⟨rfl, rfl⟩
      go_wp2
      go_ret
      exact ⟨ret_bool (by rw [HF.out]; simp [hl, hr]), rfl⟩
  · go_enter Try.func81, Try.ntmps81
    go_wp2_with fail
    refine HP.out.mono ?_
    rintro e w' ⟨rfl, rfl⟩
    go_wp2
    go_ret
    exact ⟨ret_bool (by rw [HF.out]; simp; omega), rfl⟩
theorem c_l1WidthK (k : Nat) (w : World) (h1 : 1 ≤ k) (h2 : k ≤ 12) :
    Calls Try.prog 21 #[(.int .i64 ((k : Int)))] w fun e w' => e = .returned (.bool true) ∧ w = w' := by
  have h := c_l1Width (k : Int) w
  rwa [inB_t (by omega) (by omega)] at h
set_option maxRecDepth 20000 in
theorem c_sColumnOf_t (n : Int) (k : Nat) (w : World) (h1 : 1 ≤ k) (h2 : k ≤ 12) (hf : fitB n k = true) :
    Calls Try.prog 51 #[(.int .i64 (n)), (.int .i64 ((k : Int)))] w (ColR k n w) := by
  obtain ⟨f1, f2⟩ := fitB_iff.1 hf
  have hT := ten_bd (k := k) (by omega)
  have HW := hidd (c_l1WidthK k w h1 h2)
  have HF := c_l1Fits n k w h1 h2
  rw [hf] at HF
  have HF := hidd HF
  have HS := hidd (c_l1ShowX n k w h1 h2 (by omega) (by omega))
  clear f1 f2 hT hf
  go_enter Try.func51, Try.ntmps51
  go_wp2_with fail
  refine HW.out.mono ?_
  rintro e w' ⟨rfl, rfl⟩
  go_wp2_with fail
  refine HF.out.mono ?_
  rintro e w' ⟨rfl, rfl⟩
  go_wp2_with fail
  refine HS.out.mono ?_
  rintro e w' ⟨rfl, hB⟩
  go_wp2
  go_ret2
  exact ⟨rfl, hB⟩
set_option maxRecDepth 20000 in
theorem c_sColumnOf_f (n : Int) (k : Nat) (w : World) (h1 : 1 ≤ k) (h2 : k ≤ 12) (hf : fitB n k = false) :
    Calls Try.prog 51 #[(.int .i64 (n)), (.int .i64 ((k : Int)))] w (ColN w) := by
  have HW := hidd (c_l1WidthK k w h1 h2)
  have HF := c_l1Fits n k w h1 h2
  rw [hf] at HF
  have HF := hidd HF
  clear hf
  go_enter Try.func51, Try.ntmps51
  go_wp2_with fail
  refine HW.out.mono ?_
  rintro e w' ⟨rfl, rfl⟩
  go_wp2_with fail
  refine HF.out.mono ?_
  rintro e w' ⟨rfl, rfl⟩
  go_wp2
  go_ret2
  exact ⟨rfl, Below.refl _ _⟩

set_option maxRecDepth 20000 in
set_option maxHeartbeats 400000 in
theorem c_AddColumns (k : Nat) (a b : Int) (w : World) (h1 : 1 ≤ k) (h2 : k ≤ 12) :
    Calls Try.prog 102 #[.string (colS k a), .string (colS k b)] w (ColR k (a + b) w) := by
  have hT := ten_bd (k := k) (by omega)
  have ha := mod_bds k a
  have hb := mod_bds k b
  have HA := hidd (c_alikeC k a b w h1 h2)
  have HV1 := hidd (c_ValueOfC k a w h1 h2)
  have HV2 := hidd (c_ValueOfC k b w h1 h2)
  have HP := hidd (c_powerOfTen k w (by omega))
  have HM := hidd (c_modulo (a % ten k + b % ten k) (ten k) w hT.1 hT.2)
  have hm := mod_bds k (a % ten k + b % ten k)
  obtain ⟨m, hmm⟩ : ∃ m : Nat, (a % ten k + b % ten k) % ten k = m := ⟨((a % ten k + b % ten k) % ten k).toNat, by omega⟩
  have HSh : Hid (Calls Try.prog 74 #[.int .i64 m, .int .i64 k] w fun e w' => e = .returned (.string (colS k (a + b))) ∧ Below w.heap.size w w') := by
    have h := c_showNumber m k w h1 h2 (by omega)
    rw [← hmm, colS_emod, colS_add] at h
    rw [← hmm]
    exact h
  rw [hmm] at HM
  have hsz : ((colS k a).size : Int) = (k : Int) := by rw [colS_size]
  obtain ⟨s, hs⟩ : ∃ s, colS k a = s := ⟨_, rfl⟩
  obtain ⟨t, ht⟩ : ∃ t, colS k b = t := ⟨_, rfl⟩
  rw [hs] at HA HV1 hsz ⊢
  rw [ht] at HA HV2 ⊢
  obtain ⟨x, hx⟩ : ∃ x, a % ten k = x := ⟨_, rfl⟩
  obtain ⟨y, hy⟩ : ∃ y, b % ten k = y := ⟨_, rfl⟩
  rw [hx] at ha HV1 HM
  rw [hy] at hb HV2 HM
  obtain ⟨T, hT'⟩ : ∃ T, ten k = T := ⟨_, rfl⟩
  rw [hT'] at hT HP HM ha hb
  clear hmm hT' hm hx hy hs ht
  go_enter Try.func102, Try.ntmps102
  go_wp2_with fail
  refine HA.out.mono ?_
  rintro e w' ⟨rfl, rfl⟩
  go_wp2_with fail
  refine HV1.out.mono ?_
  rintro e w' ⟨rfl, rfl⟩
  go_wp2_with fail
  refine HV2.out.mono ?_
  rintro e w' ⟨rfl, rfl⟩
  go_wp2_with fail
  refine HP.out.mono ?_
  rintro e w' ⟨rfl, rfl⟩
  go_wp2_with fail
  refine HM.out.mono ?_
  rintro e w' ⟨rfl, rfl⟩
  go_wp2_with fail
  refine HSh.out.mono ?_
  rintro e w' ⟨rfl, hB⟩
  go_wp2
  go_ret2
  exact ⟨rfl, hB⟩
set_option maxRecDepth 20000 in
set_option maxHeartbeats 400000 in
theorem c_l3Plus (k : Nat) (a b : Int) (w : World) (h1 : 1 ≤ k) (h2 : k ≤ 12) :
    Calls Try.prog 84 #[.string (colS k a), .string (colS k b)] w fun e w' => e = .returned (.string (colS k (a + b))) ∧ Below w.heap.size w w' := by
  have hT := ten_bd (k := k) (by omega)
  have ha := mod_bds k a
  have hb := mod_bds k b
  have HV1 := hidd (c_l1ValueC k a w h1 h2)
  have HV2 := hidd (c_l1ValueC k b w h1 h2)
  have HSh := c_l1ShowX (a % ten k + b % ten k) k w h1 h2 (by omega) (by omega)
  rw [colS_add] at HSh
  have HSh := hidd HSh
  have hsz : ((colS k a).size : Int) = (k : Int) := by rw [colS_size]
  obtain ⟨s, hs⟩ : ∃ s, colS k a = s := ⟨_, rfl⟩
  obtain ⟨t, ht⟩ : ∃ t, colS k b = t := ⟨_, rfl⟩
  rw [hs] at HV1 hsz ⊢
  rw [ht] at HV2 ⊢
  obtain ⟨x, hx⟩ : ∃ x, a % ten k = x := ⟨_, rfl⟩
  obtain ⟨y, hy⟩ : ∃ y, b % ten k = y := ⟨_, rfl⟩
  rw [hx] at ha HV1 HSh
  rw [hy] at hb HV2 HSh
  obtain ⟨T, hT'⟩ : ∃ T, ten k = T := ⟨_, rfl⟩
  rw [hT'] at hT ha hb
  clear hT' hx hy hs ht
  go_enter Try.func84, Try.ntmps84
  go_wp2_with fail
  refine HV1.out.mono ?_
  rintro e w' ⟨rfl, rfl⟩
  go_wp2_with fail
  refine HV2.out.mono ?_
  rintro e w' ⟨rfl, rfl⟩
  go_wp2_with fail
  refine HSh.out.mono ?_
  rintro e w' ⟨rfl, hB⟩
  go_wp2
  go_ret
  exact ⟨rfl, hB⟩
end Go.Proofs.Ythjehjdcpfefcaa
