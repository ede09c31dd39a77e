/- Contracts: the cost of a plan, in the program. -/
import Derived.Test.YtkfejnifbkgihaaCp3
namespace Go.Proofs.Ytkfejnifbkgihaa
set_option linter.unusedVariables false
open Go.RowKit

theorem cost_succ (a b : Int) (pl : List Seg) (k : Nat) (h : k < pl.length) : cost a b (pl.take (k + 1)) = cost a b (pl.take k) + (a + b * ((pl.getD k noG).2.length : Int)) := by
  rw [take_succG pl k h, cost_append]
  simp [cost]
theorem plan_len {pl : List Seg} (h : planB pl = true) : pl.length ≤ 60 ∧ ∀ s ∈ pl, s.2.length ≤ 7 := by
  obtain ⟨h1, h2, h3⟩ := planB_iff.1 h
  have h4 : ∀ s ∈ pl, 1 ≤ s.1 ∧ s.2.length ≤ 7 := by
    intro s hs
    have h5 := List.all_eq_true.1 h2 s hs
    unfold segB cntB polyS at h5
    simp only [Bool.and_eq_true] at h5
    have h6 := inB_iff.1 h5.1
    exact ⟨h6.1, (polyB_iff h5.2.1).2.1⟩
  have h7 : ∀ pl : List Seg, (∀ s ∈ pl, 1 ≤ s.1 ∧ s.2.length ≤ 7) → (pl.length : Int) ≤ tot pl := by
    intro pl
    induction pl with
    | nil => intro _; simp [tot]
    | cons s t ih =>
      intro h
      have a := (h s (by simp)).1
      have b := ih (fun x hx => h x (by simp [hx]))
      simp only [tot, List.length_cons]; omega
  have h8 := h7 pl h4
  exact ⟨by omega, fun s hs => (h4 s hs).2⟩
set_option maxRecDepth 20000 in
set_option maxHeartbeats 800000 in
theorem c_PlanCost (v : Value) (pl : List Seg) (a b : Int) (w : World) (hv : RdP w v pl) (hp : planB pl = true) (ha : 0 ≤ a ∧ a ≤ 1000) (hb : 0 ≤ b ∧ b ≤ 1000) :
    Calls Try.prog 39 #[v, (.int .i64 (a)), (.int .i64 (b))] w fun e w' => e = .returned (.int .i64 (cost a b pl)) ∧ Below w.heap.size w w' := by
  obtain ⟨hl60, hmem⟩ := plan_len hp
  have hpv := c_impl_PlanValid v pl w hv (by omega) (fun s hs => by have := hmem s hs; omega)
  rw [hp] at hpv
  have HPV := hidd hpv
  have HM := hidd hmem
  have ia := inB_t ha.1 ha.2
  have ib := inB_t hb.1 hb.2
  obtain ⟨va, cap, rfl, hcap⟩ := hv.form
  obtain ⟨ha0, ha1⟩ := ha
  obtain ⟨hb0, hb1⟩ := hb
  have HV := hidd hv
  clear hpv hmem hp hv
  go_enter Try.func39, Try.ntmps39
  go_wp2_with fail
  refine HPV.out.mono ?_
  rintro e w1 ⟨rfl, hB1⟩
  have hc1 := c_costValid a w1
  have hc2 := c_costValid b w1
  rw [ia] at hc1
  rw [ib] at hc2
  clear HPV ia ib
  go_wp2_with fail
  refine hc1.mono ?_
  rintro e w2 ⟨rfl, rfl⟩
  go_wp2_with fail
  refine hc2.mono ?_
  rintro e w3 ⟨rfl, rfl⟩
  clear hc1 hc2
  go_wp2
  go_loopw [7, 9, 25] (fun q _ i wr => ∃ (k : Nat) (T : Int), k ≤ pl.length ∧ i = .int .i64 k ∧ q = .int .i64 T ∧ 0 ≤ T ∧ T ≤ 8000 * (k : Int) ∧ Hid (cost a b (pl.take k) = T) ∧ Below w.heap.size w wr) (fun _ _ i _ => pl.length - (intOf i).toNat)
  case atStart => exact ⟨0, 0, by omega, rfl, rfl, by omega, by omega, rfl, hB1⟩
  case round =>
    obtain ⟨k, T, hk, rfl, rfl, hT0, hT1, HT, hB⟩ := hrel
    clear hB1
    by_cases hlt : k < pl.length
    · obtain ⟨bk, o, pa, pn, pc, rfl, hbk, e1, e2, hp, hpc, hpn⟩ := HV.out.cell hB hlt
      have HSUC := hidd (cost_succ a b pl k hlt)
      have hm := HM.out (pl.getD k noG) (by simp [List.getD, hlt])
      obtain ⟨s, hs⟩ : ∃ s, pl.getD k noG = s := ⟨_, rfl⟩
      rw [hs] at e1 HSUC hm hpn
      obtain ⟨c, p⟩ := s
      have e1 : wr.cell? ⟨bk, o + k * 2, none⟩ = some (.int .i64 c) := e1
      have hm : pn ≤ 7 := by rw [hpn]; exact hm
      have hp0 : 0 ≤ b * (pn : Int) := Int.mul_nonneg hb0 (by omega)
      have hp1 : b * (pn : Int) ≤ 1000 * 7 := Int.mul_le_mul hb1 (by omega) (by omega) (by omega)
      have HC2 : Hid (cost a b (pl.take (k + 1)) = T + (a + b * (pn : Int))) := by
        show _ = _
        rw [HSUC.out, HT.out, hpn]
      have i1 : (0 : Int) ≤ (k : Int) := by omega
      have i2 : (k : Int) < (pl.length : Int) := by omega
      have HB := hidd (bthen hB ((Below.refl wr.heap.size wr).alloc (Nat.le_refl _) (.cells #[.int .i64 c, .slice pa pn pc] 31)))
      clear hs hp hpn hB HSUC HT
      go_wp2
      go_roundw
      case rel => exact ⟨k + 1, T + (a + b * (pn : Int)), by omega, by go_num, rfl, by omega, by omega, HC2, HB.out⟩
      case measure => simp [intOf]; omega
    · have HF : Hid (T = cost a b pl) := by
        have h := HT.out
        rw [List.take_of_length_le (by omega)] at h
        exact h.symm
      clear HT
      go_wp2
      go_ret
      exact ⟨ret_int HF.out, hB⟩
end Go.Proofs.Ytkfejnifbkgihaa
