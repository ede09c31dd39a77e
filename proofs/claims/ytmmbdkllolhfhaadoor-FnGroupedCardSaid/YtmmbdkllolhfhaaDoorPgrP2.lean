/- Plain facts: a number's digits in groups, without the spaces, are its decimal text. No condition; no program in sight. -/
import Derived.Test.YtmmbdkllolhfhaaDoorPgrP
namespace Go.Proofs.YtmmbdkllolhfhaaDoor
set_option linter.unusedVariables false
open Go.RowKit

theorem dec_digs (n : Nat) : ∀ c ∈ Lib.decDigits n, c ≠ 32 := by
  intro c hc e
  have h := decFrom_dec n
  obtain ⟨k, hk, hkc⟩ := List.mem_iff_getElem.1 hc
  obtain ⟨d, hd⟩ := Lib.digit_of_decFrom _ 0 n h k c (by rw [List.getElem?_eq_getElem hk, hkc])
  obtain ⟨_, _, h1, _⟩ := digitVal_some hd
  rw [e] at h1
  exact absurd h1 (by decide)
theorem nosp_app (a b : List UInt8) : nosp (a ++ b) = nosp a ++ nosp b := by unfold nosp; exact List.filter_append ..
theorem nosp_grpK {t : List UInt8} (h : ∀ c ∈ t, c ≠ 32) (k : Nat) (hk : k ≤ t.length) : nosp (grpK t k) = t.take k := by
  induction k with
  | zero => rfl
  | succ k ih =>
    have hlt : k < t.length := by omega
    rw [grpK, nosp_app, nosp_app, ih (by omega), take1 hlt, List.take_succ_eq_append_getElem hlt]
    have h1 : nosp (if 0 < k ∧ (t.length - k) % 3 = 0 then [32] else []) = [] := by split <;> rfl
    have h2 : nosp [t[k]] = [t[k]] := by
      unfold nosp
      have := h t[k] (List.getElem_mem hlt)
      simp [this]
    rw [h1, h2, List.nil_append]
theorem nosp_grpN (n : Nat) : nosp (grpN n) = Lib.decDigits n := by
  unfold grpN
  rw [nosp_grpK (dec_digs n) _ (Nat.le_refl _), List.take_length]
theorem nosp_grpF {n : Int} (h0 : -1000000000 ≤ n) (h1 : n ≤ 1000000000) : nosp (grpF n) = Lib.itoa n := by
  unfold grpF
  rw [if_pos (inB_t h0 h1)]
  by_cases h : n < 0
  · rw [if_pos h, itoa_neg h]
    have : nosp (45 :: grpN (-n).toNat) = 45 :: nosp (grpN (-n).toNat) := by unfold nosp; simp
    rw [this, nosp_grpN]
  · rw [if_neg h]
    obtain ⟨k, rfl⟩ : ∃ k : Nat, n = k := ⟨n.toNat, by omega⟩
    rw [Int.toNat_natCast, nosp_grpN, itoa_nat]
theorem pgP_grp {n : Int} (h0 : -1000000000 ≤ n) (h1 : n ≤ 1000000000) : pgP (grpF n) = some n := by
  refine pgP_good ?_ rfl
  rw [nosp_grpF h0 h1]
  exact numP_small (by omega) (by omega)
theorem grpF_ne {n : Int} (h0 : -1000000000 ≤ n) (h1 : n ≤ 1000000000) : grpF n ≠ [] := by
  intro e
  have h := nosp_grpF h0 h1
  rw [e] at h
  have h2 : Lib.itoa n = [] := h.symm
  by_cases hn : n < 0
  · rw [itoa_neg hn] at h2; cases h2
  · obtain ⟨k, rfl⟩ : ∃ k : Nat, n = k := ⟨n.toNat, by omega⟩
    rw [itoa_nat] at h2
    exact dec_ne k h2
theorem pgP_back {l : List UInt8} {n : Int} (h : pgP l = some n) : grpF n = l := by
  unfold pgP at h
  cases hn : numP (nosp l) with
  | none => rw [hn] at h; cases h
  | some m =>
    rw [hn] at h
    simp only [Option.bind_some] at h
    split at h
    · rename_i h2
      simp only [Option.some.injEq] at h
      subst h
      exact h2
    · cases h
end Go.Proofs.YtmmbdkllolhfhaaDoor
