/- Lemmas and contracts for WholePlan (Cp2 Cp3 Cp4): plain words on memory, contracts of the functions that the law reaches. No condition but what each states. -/
import Derived.Test.YtdfnclnjnmdboaaGreatDoorMWholePlanCp1
import Derived.Test.YtdfnclnjnmdboaaGreatDoorMWholePlanPlan6
import Derived.BigRegion
namespace Go.Proofs.YtdfnclnjnmdboaaGreatDoor
set_option linter.unusedVariables false
open Go.RowKit

/-- the least costs from place F on, naught before it -/
def bsT (d a b : Int) (xs : List Int) (F : Nat) : List Int := (List.range (xs.length + 1)).map fun j => if F ≤ j then bs d a b (xs.drop j) else 0
theorem bsT_len (d a b : Int) (xs : List Int) (F : Nat) : (bsT d a b xs F).length = xs.length + 1 := by simp [bsT]
theorem bsT_at {d a b : Int} {xs : List Int} {F j : Nat} (h : F ≤ j) (hj : j ≤ xs.length) : (bsT d a b xs F).getD j 0 = bs d a b (xs.drop j) := by
  simp [bsT, List.getD, show j < xs.length + 1 by omega, h]
theorem bsT_set (d a b : Int) (xs : List Int) (F : Nat) : (bsT d a b xs (F + 1)).set F (bs d a b (xs.drop F)) = bsT d a b xs F := by
  apply List.ext_getElem
  · simp [bsT]
  · intro i h1 h2
    rw [List.getElem_set]
    by_cases h : F = i
    · subst h; simp [bsT]
    · rw [if_neg h]
      simp only [bsT, List.getElem_map, List.getElem_range]
      by_cases hi : F ≤ i
      · rw [if_pos hi, if_pos (by omega)]
      · rw [if_neg hi, if_neg (by omega)]
theorem bsT_start (d a b : Int) (xs : List Int) : bsT d a b xs xs.length = List.replicate (xs.length + 1) 0 := by
  apply List.ext_getElem
  · simp [bsT]
  · intro i h1 h2
    simp [bsT] at h1 ⊢
    intro h
    have : i = xs.length := by omega
    subst this
    rw [List.drop_length]; rfl

/-- the row while place I is worked out: m runs are tried -/
def bsI (d a b : Int) (xs : List Int) (I m : Nat) : List Int := (bsT d a b xs (I + 1)).set I (mn (gC d a b (xs.drop I)) m)
theorem bsI_len (d a b : Int) (xs : List Int) (I m : Nat) : (bsI d a b xs I m).length = xs.length + 1 := by simp [bsI, bsT]
theorem bsI_at {d a b : Int} {xs : List Int} {I m c : Nat} (hc : 1 ≤ c) (h : I + c ≤ xs.length) : (bsI d a b xs I m).getD (I + c) 0 = bs d a b ((xs.drop I).drop c) := by
  unfold bsI
  simp only [List.getD]
  rw [List.getElem?_set_ne (by omega), List.drop_drop]
  exact bsT_at (by omega) h
theorem bsI_at0 {d a b : Int} {xs : List Int} {I m : Nat} (h : I ≤ xs.length) : (bsI d a b xs I m).getD I 0 = mn (gC d a b (xs.drop I)) m := by
  simp [bsI, bsT, List.getD, show I < xs.length + 1 by omega]
theorem bsI_set (d a b : Int) (xs : List Int) (I m : Nat) (x : Int) (h : x = mn (gC d a b (xs.drop I)) (m + 1)) : (bsI d a b xs I m).set I x = bsI d a b xs I (m + 1) := by
  subst h; simp [bsI]
theorem bsI_end {d a b : Int} {xs : List Int} {I : Nat} (h : I < xs.length) : bsI d a b xs I (lg (xs.drop I) d) = bsT d a b xs I := by
  unfold bsI
  rw [← bs_cons d a b (by intro e; have := congrArg List.length e; simp at this; omega)]
  exact bsT_set d a b xs I
abbrev OwnG (w : World) (g n : Nat) (xs : List Int) : Prop := w.ownsRow g 3 1 (.slice (some ⟨g, 0, none⟩) n n) n (xs.map (Value.int .i64))

theorem mn_nn (g : Nat → Int) : ∀ m, (∀ c, 0 ≤ g c) → 0 ≤ mn g m
  | 0, _ => by simp [mn]
  | m + 1, h => by
    have h1 := mn_nn g m h
    have h2 := h (m + 1)
    rw [mn]; omega
end Go.Proofs.YtdfnclnjnmdboaaGreatDoor

namespace Go.Proofs.YtdfnclnjnmdboaaGreatDoor
set_option linter.unusedVariables false
open Go.RowKit

theorem drop_ne {xs : List Int} {F : Nat} (h : F < xs.length) : xs.drop F ≠ [] := by
  intro e; have := congrArg List.length e; simp at this; omega
theorem cpB_f {l : List Int} {d a b : Int} (h : cpB l d a b = false) : smallB l = false ∨ (smallB l = true ∧ inB d 0 6 = false) ∨ (smallB l = true ∧ inB d 0 6 = true ∧ (inB a 0 1000 && inB b 0 1000) = false) := by
  unfold cpB at h
  cases h1 : smallB l
  · exact .inl rfl
  · cases h2 : inB d 0 6
    · exact .inr (.inl ⟨rfl, rfl⟩)
    · exact .inr (.inr ⟨rfl, rfl, by simpa [h1, h2] using h⟩)
theorem cpB_t {l : List Int} {d a b : Int} (h : cpB l d a b = true) : smallB l = true ∧ inB d 0 6 = true ∧ inB a 0 1000 = true ∧ inB b 0 1000 = true := by
  unfold cpB at h
  simp only [Bool.and_eq_true] at h
  exact ⟨h.1.1, h.1.2, h.2.1, h.2.2⟩
end Go.Proofs.YtdfnclnjnmdboaaGreatDoor

namespace Go.Proofs.YtdfnclnjnmdboaaGreatDoor
set_option linter.unusedVariables false
open Go.RowKit

theorem cost_succ (a b : Int) (pl : List Seg) (k : Nat) (h : k < pl.length) : cost a b (pl.take (k + 1)) = cost a b (pl.take k) + (a + b * ((pl.getD k noG).2.length : Int)) := by
  rw [take_succG pl k h, cost_append]
  simp [cost]
theorem plan_len {pl : List Seg} (h : planB pl = true) : pl.length ≤ 60 ∧ ∀ s ∈ pl, s.2.length ≤ 7 := by
  obtain ⟨h1, h2, h3⟩ := planB_iff.1 h
  have h4 : ∀ s ∈ pl, 1 ≤ s.1 ∧ s.2.length ≤ 7 := by
    intro s hs
    have h5 := List.all_eq_true.1 h2 s hs
    unfold segB cntB polyS at h5
    simp only [Bool.and_eq_true] at h5
    have h6 := inB_iff.1 h5.1
    exact ⟨h6.1, (polyB_iff h5.2.1).2.1⟩
  have h7 : ∀ pl : List Seg, (∀ s ∈ pl, 1 ≤ s.1 ∧ s.2.length ≤ 7) → (pl.length : Int) ≤ totG pl := by
    intro pl
    induction pl with
    | nil => intro _; simp [totG]
    | cons s t ih =>
      intro h
      have a := (h s (by simp)).1
      have b := ih (fun x hx => h x (by simp [hx]))
      simp only [totG, List.length_cons]; omega
  have h8 := h7 pl h4
  exact ⟨by omega, fun s hs => (h4 s hs).2⟩
end Go.Proofs.YtdfnclnjnmdboaaGreatDoor
