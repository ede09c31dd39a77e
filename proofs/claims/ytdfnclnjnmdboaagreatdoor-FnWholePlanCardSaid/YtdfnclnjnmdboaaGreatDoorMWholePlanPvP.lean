/- Lemmas and contracts for WholePlan (PvP): plain words on memory, contracts of the functions that the law reaches. No condition but what each states. -/
import Derived.Test.YtdfnclnjnmdboaaGreatDoorMWholePlanPlan4
import Derived.Test.YtdfnclnjnmdboaaGreatDoorMWholePlanGrP
namespace Go.Proofs.YtdfnclnjnmdboaaGreatDoor
set_option linter.unusedVariables false
open Go.RowKit

theorem plV_mem : ∀ (pl : List Seg), pl.all segB = true → ∀ x ∈ plV pl, -1000000000 ≤ x ∧ x ≤ 1000000000
  | [], _, x, h => by simp [plV] at h
  | s :: l, h, x, hx => by
    simp only [List.all_cons, Bool.and_eq_true] at h
    simp only [plV, List.mem_append] at hx
    rcases hx with hx | hx
    · exact allIn_mem (tabB_iff (segB_iff h.1).2.2.2).2.2 x hx
    · exact plV_mem l h.2 x hx
theorem plV_tab {pl : List Seg} (h : planB pl = true) : tabB (plV pl) = true := by
  obtain ⟨h1, h2, h3⟩ := planB_iff.1 h
  have hc := segB_cnt pl h2
  have hl := plV_len pl hc
  have hb := tot_bd pl hc
  unfold tabB
  rw [inB_t (by omega) (by omega), allIn_of (plV_mem pl h2)]; rfl
theorem drop_consG (pl : List Seg) (k : Nat) (h : k < pl.length) : pl.drop k = pl.getD k noG :: pl.drop (k + 1) := by
  rw [List.drop_eq_getElem_cons h]; simp [List.getD, h]
theorem plV_at {pl : List Seg} {k n : Nat} (hk : k < pl.length) (hn : n < (pl.getD k noG).1.toNat) : (plV pl).getD ((plV (pl.take k)).length + n) 0 = evalP (pl.getD k noG).2 n := by
  have e : plV pl = plV (pl.take k) ++ (vals (pl.getD k noG).2 (pl.getD k noG).1.toNat ++ plV (pl.drop (k + 1))) := by
    conv => lhs; rw [← List.take_append_drop k pl, plV_append, drop_consG pl k hk]
    rfl
  rw [e]
  simp only [List.getD]
  rw [List.getElem?_append_right (by omega), Nat.add_sub_cancel_left, List.getElem?_append_left (by rw [vals_len]; exact hn)]
  have := vals_getD (pl.getD k noG).2 (pl.getD k noG).1.toNat n hn
  simpa [List.getD] using this
theorem plV_at_lt {pl : List Seg} {k n : Nat} (hk : k < pl.length) (hn : n < (pl.getD k noG).1.toNat) : (plV (pl.take k)).length + n < (plV pl).length := by
  have e : plV pl = plV (pl.take k) ++ (vals (pl.getD k noG).2 (pl.getD k noG).1.toNat ++ plV (pl.drop (k + 1))) := by
    conv => lhs; rw [← List.take_append_drop k pl, plV_append, drop_consG pl k hk]
    rfl
  rw [e, List.length_append, List.length_append, vals_len]; omega
theorem plV_take_len (pl : List Seg) (k : Nat) (h : k < pl.length) : (plV (pl.take (k + 1))).length = (plV (pl.take k)).length + (pl.getD k noG).1.toNat := by
  rw [plV_take_succ pl k h, List.length_append, vals_len]
end Go.Proofs.YtdfnclnjnmdboaaGreatDoor
