/- Plain facts: the plan by longest runs, segment by segment. No program in sight. -/
import Derived.Test.YtkfejnifbkgihaaGrP
namespace Go.Proofs.Ytkfejnifbkgihaa
set_option linter.unusedVariables false
open Go.RowKit

theorem degM_le {d : Int} (h0 : -1 ≤ d) : ∀ pl : List Seg, (∀ s ∈ pl, degP s.2 ≤ d) → degM pl ≤ d
  | [], _ => by simpa [degM] using h0
  | s :: l, h => by
    have h1 := h s (by simp)
    have h2 := degM_le h0 l (fun x hx => h x (by simp [hx]))
    simp only [degM]; omega
theorem runL_deg {l : List Int} {d : Int} (h1 : 1 ≤ l.length) (hr : runB l d = true) : degP (runL l d) ≤ d := by
  rw [runL_t hr]
  obtain ⟨_, a, b, _⟩ := runB_iff hr
  exact degP_ip h1 b a
theorem gr_deg (d : Int) (h0 : 0 ≤ d) (h6 : d ≤ 6) : ∀ n l, l.length ≤ n → smP l → ∀ s ∈ gr l d, degP s.2 ≤ d
  | n, [], _, _, s, h => by rw [gr_nil] at h; cases h
  | 0, a :: l, h, _, _, _ => by simp at h
  | n + 1, a :: l, h, hs, s, hm => by
    have h1 : 1 ≤ (a :: l).length := by simp
    have hp := lg_pos (d := d) hs h1 h0 h6
    rw [gr_cons (by simp) hp] at hm
    have hr := lg_run (l := a :: l) (d := d) hp (Nat.le_refl _)
    rcases List.mem_cons.1 hm with rfl | hm
    · exact runL_deg (by simp; omega) hr
    · exact gr_deg d h0 h6 n _ (by simp at h ⊢; omega) (hs.drop _) s hm
/-- the k-th segment of the plan by longest runs -/
theorem gr_step {xs : List Int} {d : Int} {pl : List Seg} {k F : Nat} (hs : smP xs) (h0 : 0 ≤ d) (h6 : d ≤ 6) (h : pl.drop k = gr (xs.drop F) d) (hk : k < pl.length) :
    F < xs.length ∧ 1 ≤ lg (xs.drop F) d ∧ F + lg (xs.drop F) d ≤ xs.length ∧ runB ((xs.drop F).take (lg (xs.drop F) d)) d = true ∧ pl.getD k noG = ((lg (xs.drop F) d : Int), ip ((xs.drop F).take (lg (xs.drop F) d))) ∧ pl.drop (k + 1) = gr (xs.drop (F + lg (xs.drop F) d)) d := by
  have hne : xs.drop F ≠ [] := by
    intro e
    rw [e, gr_nil] at h
    have := congrArg List.length h
    simp at this; omega
  have hF : F < xs.length := by
    rcases Nat.lt_or_ge F xs.length with h | h
    · exact h
    · exact absurd (List.drop_eq_nil_of_le h) hne
  have hp := lg_pos (d := d) (hs.drop F) (by simp; omega) h0 h6
  have hle := lg_le (xs.drop F) d
  rw [List.length_drop] at hle
  have hr := lg_run (l := xs.drop F) (d := d) hp (Nat.le_refl _)
  rw [gr_cons hne hp, runL_t hr] at h
  have hd : pl.drop k = pl.getD k noG :: pl.drop (k + 1) := by rw [List.drop_eq_getElem_cons hk]; simp [List.getD, hk]
  rw [hd] at h
  simp only [List.cons.injEq] at h
  exact ⟨hF, hp, by omega, hr, h.1, by rw [h.2, List.drop_drop]⟩
theorem gr_done {xs : List Int} {d : Int} {pl : List Seg} {k F : Nat} (h : pl.drop k = gr (xs.drop F) d) (hk : pl.length ≤ k) (hp : F < xs.length → 1 ≤ lg (xs.drop F) d) : xs.length ≤ F := by
  rcases Nat.lt_or_ge F xs.length with hF | hF
  · exfalso
    rw [List.drop_eq_nil_of_le hk, gr_cons (by intro e; have := congrArg List.length e; simp at this; omega) (hp hF)] at h
    cases h
  · exact hF
end Go.Proofs.Ytkfejnifbkgihaa
