/- Lemmas and contracts for WholePlan (Errt Cln): plain words on memory, contracts of the functions that the law reaches. No condition but what each states. -/
import Derived.Test.YtdfnclnjnmdboaaGreatDoorMWholePlanTab
import Derived.Test.YtdfnclnjnmdboaaGreatDoorMWholePlanRd
import Derived.Test.YtdfnclnjnmdboaaGreatDoorMWholePlanPoly7
import Derived.Test.YtdfnclnjnmdboaaGreatDoorMWholePlanPlan6
namespace Go.Proofs.YtdfnclnjnmdboaaGreatDoor
set_option linter.unusedVariables false
open Go.RowKit

theorem c_tablesAlike (va vb : Value) (xs : List Int) (w : World) (ha : RdI w va xs) (hb : RdI w vb xs) (hx : xs.length ≤ 1099511627776) (ht : tabB xs = true) :
    Calls Tryz.prog 47 #[va, vb] w fun e w' => e = .returned (.bool true) ∧ Below w.heap.size w w' := by
  have ha0 := ha
  obtain ⟨a, cap, rfl, _⟩ := ha0
  have hb0 := hb
  obtain ⟨b, cap2, rfl, _⟩ := hb0
  simp only [List.length_map] at ha hb ⊢
  go_enter Tryz.func47, Tryz.ntmps47
  go_wp2_with fail
  refine (c_impl_TableValid _ xs _ ha hx).mono ?_
  rw [ht]
  rintro e w1 ⟨rfl, hB1⟩
  go_wp2_with fail
  refine (c_impl_TableValid _ xs _ (hb.kept hB1) hx).mono ?_
  rw [ht]
  rintro e w2 ⟨rfl, hB2⟩
  have hF := bthen hB1 hB2
  clear hB1 hB2 ha hb
  go_wp2
  go_ret
  exact ⟨by simp, hF⟩
set_option maxRecDepth 20000 in
set_option maxHeartbeats 1600000 in
theorem c_ErrataOf_same (va vb : Value) (xs : List Int) (w : World) (ha : RdI w va xs) (hb : RdI w vb xs) (hx : xs.length ≤ 1099511627776) (ht : tabB xs = true) :
    Calls Tryz.prog 17 #[va, vb] w fun e w' => e = .returned (.tuple #[.slice none 0 0, .bool true]) ∧ Below w.heap.size w w' := by
  have ha0 := ha
  obtain ⟨a, cap, rfl, _⟩ := ha0
  have hb0 := hb
  obtain ⟨b, cap2, rfl, _⟩ := hb0
  simp only [List.length_map] at ha hb ⊢
  go_enter Tryz.func17, Tryz.ntmps17
  go_wp2_with fail
  refine (c_tablesAlike _ _ xs _ ha hb hx ht).mono ?_
  rintro e w1 ⟨rfl, hB1⟩
  have ha1 := ha.kept hB1
  have hb1 := hb.kept hB1
  clear ha hb
  go_wp2
  go_loopw [6, 14] (fun o i wr => ∃ k : Nat, k ≤ xs.length ∧ i = .int .i64 k ∧ o = .slice none 0 0 ∧ Below w1.heap.size w1 wr) (fun _ i _ => xs.length - (intOf i).toNat)
  case atStart => exact ⟨0, by omega, rfl, rfl, Below.refl _ _⟩
  case round =>
    obtain ⟨k, hk, rfl, rfl, hB⟩ := hrel
    by_cases hlt : k < xs.length
    · obtain ⟨b1, o1, rfl, hb2, e1⟩ := RdI_cell ha1 hB hlt
      obtain ⟨b3, o3, rfl, hb4, e3⟩ := RdI_cell hb1 hB hlt
      obtain ⟨x, hx0⟩ : ∃ x, xs.getD k 0 = x := ⟨_, rfl⟩
      rw [hx0] at e1 e3
      clear hx0 ha1 hb1
      go_wp2
      go_quiet (fail)
      go_wp2
      go_roundw
      case rel => exact ⟨k + 1, by omega, by go_num, rfl, below_drewN hB _⟩
      case measure => simp [intOf]; omega
    · have hF := bthen hB1 hB
      clear ha1 hb1 hB hB1
      go_wp2
      go_ret2
      exact ⟨rfl, hF⟩
end Go.Proofs.YtdfnclnjnmdboaaGreatDoor

namespace Go.Proofs.YtdfnclnjnmdboaaGreatDoor
set_option linter.unusedVariables false
open Go.RowKit

set_option maxRecDepth 20000 in
theorem c_differences (v : Value) (xs : List Int) (n : Nat) (w : World) (ha : RdI w v xs) (ht : tabB xs = true) (hn : n ≤ 7) :
    Calls Tryz.prog 52 #[v, (.int .i64 ((n : Int)))] w fun e w' => ∃ u, e = .returned u ∧ RdI w' u (nxtN n xs) ∧ Below w.heap.size w w' := by
  have HB : Hid (∀ k, k ≤ 7 → bdI (nxtN k xs)) := tabB_bd ht
  have hx60 := (tabB_iff ht).2.1
  have HC := hidd (c_clone v xs w ha (by omega))
  clear ht
  go_enter Tryz.func52, Tryz.ntmps52
  go_wp2_with fail
  refine HC.out.mono ?_
  rintro e w1 ⟨u, rfl, ho, hB1⟩
  have hr0 : RdI w1 u (nxtN 0 xs) := owns_RdI ho
  clear ho HC ha
  go_wp2
  go_loopw [5, 9] (fun row i wr => ∃ (j : Nat) (row' : List Int), j ≤ n ∧ i = .int .i64 j ∧ Hid (row' = nxtN j xs) ∧ row'.length ≤ 60 ∧ RdI wr row row' ∧ Below w.heap.size w wr) (fun _ i _ => n - (intOf i).toNat)
  case atStart => exact ⟨0, xs, by omega, rfl, rfl, by omega, hr0, hB1⟩
  case round =>
    obtain ⟨j, row', hj, rfl, HR, hrl, hr, hB⟩ := hrel
    clear hr0 hB1
    by_cases hlt : j < n
    · have hbd : bdI row' := by rw [HR.out]; exact HB.out j (by omega)
      have HN : Hid (nxt row' = nxtN (j + 1) xs) := by show _ = _; rw [nxtN_succ, HR.out]
      have HNL : Hid ((nxt row').length ≤ 60) := by show _ ≤ _; rw [nxt_len]; omega
      have HCN := hidd (c_neighbors u5 row' wr hr (by omega) hbd)
      clear hbd HR hr
      go_wp2_with fail
      refine HCN.out.mono ?_
      rintro e w3 ⟨u, rfl, ho, hB3⟩
      have HO : Hid (RdI w3 u (nxt row') ∧ Below w.heap.size w w3) := ⟨owns_RdI ho, bthen hB hB3⟩
      clear ho hB3 hB
      go_wp2
      go_roundw
      case rel => exact ⟨j + 1, nxt row', by omega, by go_num, HN.out, HNL.out, HO.out.1, HO.out.2⟩
      case measure => simp [intOf]; omega
    · obtain rfl : j = n := by omega
      have HF : Hid (RdI wr u5 (nxtN j xs) ∧ Below w.heap.size w wr) := ⟨by rw [← HR.out]; exact hr, hB⟩
      clear hr hB
      go_wp2
      go_ret
      exact ⟨_, rfl, HF.out.1, HF.out.2⟩
set_option maxRecDepth 20000 in
theorem c_CleanTable (v : Value) (xs : List Int) (d : Nat) (w : World) (ha : RdI w v xs) (ht : tabB xs = true) (hd : d ≤ 6) (hz : allZ (nxtN (d + 1) xs) = true) :
    Calls Tryz.prog 19 #[v, (.int .i64 ((d : Int)))] w fun e w' => e = .returned (.bool true) ∧ Below w.heap.size w w' := by
  have hx60 := (tabB_iff ht).2.1
  have hct := c_impl_TableValid v xs w ha (by omega)
  rw [ht] at hct
  have hdd := fun W => c_degreeValid (d : Int) W
  rw [show inB (d : Int) 0 6 = true from inB_t (by omega) (by omega)] at hdd
  have HDF : Hid (∀ W, Below w.heap.size w W → Calls Tryz.prog 52 #[v, (.int .i64 (((d : Int) + 1)))] W fun e w' => ∃ u, e = .returned u ∧ RdI w' u (nxtN (d + 1) xs) ∧ Below W.heap.size W w') := fun W h => c_differences v xs (d + 1) W (ha.kept h) ht (by omega)
  have HDD := hidd hdd
  have hl : (nxtN (d + 1) xs).length ≤ 1099511627776 := by rw [nxtN_len]; omega
  have HZ : Hid (∀ u W, RdI W u (nxtN (d + 1) xs) → Calls Tryz.prog 51 #[u] W fun e w' => e = .returned (.bool true) ∧ Below W.heap.size W w') := fun u W h => by
    have := c_allZero u _ W h hl
    rwa [hz] at this
  clear ha ht hz hl hdd
  go_enter Tryz.func19, Tryz.ntmps19
  go_wp2_with fail
  refine hct.mono ?_
  rintro e w1 ⟨rfl, hB1⟩
  clear hct
  go_wp2_with (go_at_call 41; refine (HDD.out _).mono ?_; rintro e w' ⟨rfl, rfl⟩)
  refine (HDF.out _ hB1).mono ?_
  rintro e w2 ⟨u, rfl, hu, hB2⟩
  have HA := hidd (bthen hB1 hB2)
  clear hB1 hB2 HDF
  go_wp2_with fail
  refine (HZ.out _ _ hu).mono ?_
  rintro e w3 ⟨rfl, hB3⟩
  have HF := hidd (bthen HA.out hB3)
  clear hB3 hu HZ
  go_wp2
  go_ret
  exact ⟨rfl, HF.out⟩
end Go.Proofs.YtdfnclnjnmdboaaGreatDoor
