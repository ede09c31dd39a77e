/- Contracts: the polynomial with a table in the reference, runs of a degree, polynomials at another argument, values; program and reference. -/
import Derived.Test.YthjehjdcpfefcaaPoly4
namespace Go.Proofs.Ythjehjdcpfefcaa
set_option linter.unusedVariables false
open Go.RowKit

theorem intB_no {xs : List Int} (h : ¬ (tabB xs = true ∧ ld xs ≤ 6)) : intB xs = false ∧ intL xs = [] := by
  have h : intB xs = false := by
    cases e : intB xs
    · rfl
    · unfold intB at e
      simp only [Bool.and_eq_true, decide_eq_true_eq] at e
      exact absurd e.1 h
  exact ⟨h, if_neg (by rw [h]; decide)⟩
set_option maxRecDepth 20000 in
set_option maxHeartbeats 400000 in
theorem c_spec_Interpolate (v : Value) (xs : List Int) (w : World) (ha : RdI w v xs) (hcap : CapOk v) (hx : xs.length ≤ 1099511627776) :
    Calls Try.prog 114 #[v] w (FreshIB w (intL xs) (intB xs)) := by
  have hld := c_spec_LeastDegree v xs w ha hx
  have ha0 := ha
  obtain ⟨a, cap, rfl, ha1⟩ := ha0
  clear ha1
  simp only [List.length_map] at ha hld hcap ⊢
  have hcc : xs.length ≤ cap := hcap _ _ _ rfl
  by_cases hv : tabB xs = true ∧ ld xs ≤ 6
  · obtain ⟨hv1, hv2⟩ := hv
    have E : Hid (intB xs = polyB (ip xs) ∧ intL xs = resL (ip xs)) := by
      have h : intB xs = polyB (ip xs) := by unfold intB; rw [hv1, decide_eq_true hv2]; rfl
      refine ⟨h, ?_⟩
      unfold intL resL; rw [h]
    have e1 : ldF xs = ld xs := if_pos hv1
    have hm := ipN_max1 (xs := xs)
    have hbd := ld_bd xs
    have hlen := (tabB_iff hv1).1
    have hle := ipN_le hlen hv2
    have hb := take_bd hv1 (iplN xs) (by unfold iplN; omega)
    have hm7 : iplN xs ≤ 7 := by unfold iplN; omega
    have hrt := fun W (h : RdI W (.slice a xs.length cap) xs) => RdI_take h (k := iplN xs) hle
    have hfd : fd (xs.take (iplN xs)) = ip xs := rfl
    obtain ⟨m, hN⟩ : ∃ m, iplN xs = m := ⟨_, rfl⟩
    rw [hN] at hm hb hle hm7 hrt hfd
    rw [e1] at hld
    have HC : Hid (∀ W K, K = m → RdI W (.slice a xs.length cap) xs → Calls Try.prog 80 #[.slice a K cap] W (FreshIB W (intL xs) (intB xs))) := by
      show ∀ W K, _ → _
      rintro W K rfl h
      have := c_l2Result _ (xs.take K) W (hrt W h) (by simp; omega) hb
      rw [hfd] at this
      rw [E.out.1, E.out.2]
      exact this
    obtain ⟨D, hD⟩ : ∃ D, ld xs = D := ⟨_, rfl⟩
    rw [hD] at hld hm hv2 hbd
    have b1 : inB D (-1) 6 = true := inB_t (by omega) (by omega)
    have hcc2 : m ≤ cap := by omega
    have HX : Hid (RdI w (.slice a xs.length cap) xs) := ha
    clear hD hN hb hle hrt hfd e1 hv1 hlen hcap hx hcc ha E
    go_enter Try.func114, Try.ntmps114
    go_wp2_with fail
    refine hld.mono ?_
    rintro e w1 ⟨rfl, hB1⟩
    have hx1 := HX.out.kept hB1
    clear hld
    go_wp2_with (go_at_call 45; refine (c_l1In _ _ _ _).mono ?_; rintro e w' ⟨rfl, rfl⟩)
    all_goals
      refine (HC.out _ _ (by omega) hx1).mono ?_
      rintro e w2 ⟨u, rfl, ho, hB2⟩
      have HF : Hid (FreshIB w (intL xs) (intB xs) (.returned (.tuple #[u, .bool (intB xs)])) w2) := ⟨_, rfl, ownsRow_mono ho hB1.size, bthen hB1 hB2⟩
      clear ho hB1 hB2 hx1
      go_wp2
      go_ret2
      exact HF.out
  · have HR : Hid (intB xs = false ∧ intL xs = []) := intB_no hv
    have hd : ldF xs < -1 ∨ 6 < ldF xs := by
      unfold ldF
      by_cases h : tabB xs = true
      · rw [if_pos h]; have := ld_bd xs; have : ¬ ld xs ≤ 6 := fun q => hv ⟨h, q⟩; omega
      · rw [if_neg h]; left; decide
    obtain ⟨D, hD⟩ : ∃ D, ldF xs = D := ⟨_, rfl⟩
    rw [hD] at hld hd
    have b1 : inB D (-1) 6 = false := inB_f (by omega)
    clear hD hv hcap ha hx hd
    go_enter Try.func114, Try.ntmps114
    go_wp2_with fail
    refine hld.mono ?_
    rintro e w1 ⟨rfl, hB1⟩
    have HF : Hid (FreshIB w (intL xs) (intB xs) (.returned (.tuple #[.slice (some ⟨w1.heap.size, 0, none⟩) 0 0, .bool false])) (w1.alloc (.cells #[] 3))) :=
      ⟨_, by rw [HR.out.1], by rw [HR.out.2]; exact ownsRow_mono (madeP0 w1) hB1.size, bthen hB1 ((Below.refl _ _).alloc (Nat.le_refl _) _)⟩
    clear hld hB1
    go_wp2_with (go_at_call 45; refine (c_l1In _ _ _ _).mono ?_; rintro e w' ⟨rfl, rfl⟩)
    go_ret2
    exact HF.out

/-- a run of a degree -/
def runB (xs : List Int) (d : Int) : Bool := tabB xs && decide (ld xs ≤ d) && intB xs
def runL (xs : List Int) (d : Int) : List Int := if runB xs d = true then ip xs else []
theorem runB_int {xs : List Int} {d : Int} (h : ldF xs ≤ d) : runB xs d = intB xs ∧ runL xs d = intL xs := by
  have e : runB xs d = intB xs := by
    unfold runB
    by_cases hv : tabB xs = true
    · unfold ldF at h
      rw [if_pos hv] at h
      rw [hv, decide_eq_true h]; rfl
    · have : intB xs = false := by unfold intB; simp [hv]
      rw [this, Bool.and_false]
  exact ⟨e, by unfold runL intL; rw [e]⟩
theorem runB_no {xs : List Int} {d : Int} (h : ldF xs = -2 ∨ d < ldF xs) : runB xs d = false ∧ runL xs d = [] := by
  have e : runB xs d = false := by
    unfold runB
    by_cases hv : tabB xs = true
    · unfold ldF at h
      rw [if_pos hv] at h
      have := ld_bd xs
      rw [decide_eq_false (by omega)]; simp
    · simp [hv]
  exact ⟨e, by unfold runL; rw [e]; rfl⟩

set_option maxRecDepth 20000 in
theorem c_l5Run (v : Value) (xs : List Int) (d : Int) (w : World) (ha : RdI w v xs) (hcap : CapOk v) (hx : xs.length ≤ 1099511627776) :
    Calls Try.prog 107 #[v, (.int .i64 (d))] w (FreshIB w (runL xs d) (runB xs d)) := by
  have hld := c_spec_LeastDegree v xs w ha hx
  have HC : Hid (∀ W, RdI W v xs → Calls Try.prog 114 #[v] W (FreshIB W (intL xs) (intB xs))) := fun W h => c_spec_Interpolate v xs W h hcap hx
  by_cases h : ldF xs ≤ d
  · have E : Hid _ := runB_int h
    obtain ⟨D, hD⟩ : ∃ D, ldF xs = D := ⟨_, rfl⟩
    rw [hD] at hld h
    clear hcap hx hD
    go_enter Try.func107, Try.ntmps107
    go_wp2_with fail
    refine hld.mono ?_
    rintro e w1 ⟨rfl, hB1⟩
    have hx1 := ha.kept hB1
    clear hld ha
    go_wp2_with fail
    refine (HC.out _ hx1).mono ?_
    rintro e w2 ⟨u, rfl, ho, hB2⟩
    have HF : Hid (FreshIB w (runL xs d) (runB xs d) (.returned (.tuple #[u, .bool (intB xs)])) w2) := ⟨_, by rw [E.out.1], by rw [E.out.2]; exact ownsRow_mono ho hB1.size, bthen hB1 hB2⟩
    clear ho hB1 hB2 hx1
    go_wp2
    go_ret2
    exact HF.out
  · have E : Hid _ := runB_no (xs := xs) (d := d) (.inr (by omega))
    obtain ⟨D, hD⟩ : ∃ D, ldF xs = D := ⟨_, rfl⟩
    rw [hD] at hld h
    clear hcap hx hD ha
    go_enter Try.func107, Try.ntmps107
    go_wp2_with fail
    refine hld.mono ?_
    rintro e w1 ⟨rfl, hB1⟩
    have HF : Hid (FreshIB w (runL xs d) (runB xs d) (.returned (.tuple #[.slice (some ⟨w1.heap.size, 0, none⟩) 0 0, .bool false])) (w1.alloc (.cells #[] 3))) :=
      ⟨_, by rw [E.out.1], by rw [E.out.2]; exact ownsRow_mono (madeP0 w1) hB1.size, bthen hB1 ((Below.refl _ _).alloc (Nat.le_refl _) _)⟩
    clear hld hB1
    go_wp2
    go_ret2
    exact HF.out

end Go.Proofs.Ythjehjdcpfefcaa
