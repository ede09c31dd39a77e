/- Contracts: small tables, longest runs, the plan by longest runs, in the reference. -/
import Derived.Test.YtdfnclnjnmdboaaDoorPlan5
import Derived.Test.YtdfnclnjnmdboaaDoorGrP
namespace Go.Proofs.YtdfnclnjnmdboaaDoor
set_option linter.unusedVariables false
open Go.RowKit

theorem smallB_no {xs : List Int} {k : Nat} (hk : k < xs.length) (h : inB (xs.getD k 0) (-1500) 1500 = false) : smallB xs = false := by
  unfold smallB
  rw [show allIn xs 1500 = false from allIn_not hk h, Bool.and_false]
theorem lgF_t {l : List Int} {d : Int} {f n : Nat} (h : runB (l.take (n + 1)) d = true) : lgF l d (f + 1) n = lgF l d f (n + 1) := if_pos h
theorem lgF_f {l : List Int} {d : Int} {f n : Nat} (h : runB (l.take (n + 1)) d = false) : lgF l d (f + 1) n = n := if_neg (by rw [h]; decide)
/-- the plan by longest runs, if numbers and degree allow one -/
def grB (l : List Int) (d : Int) : Bool := smallB l && inB d 0 6
def grL (l : List Int) (d : Int) : List Seg := if grB l d = true then gr l d else []
theorem runL_len (l : List Int) (d : Int) : (runL l d).length ≤ 7 := by
  unfold runL
  split
  · rename_i h
    exact (polyB_iff (runB_iff h).2.2.2).2.1
  · simp
theorem gr_mem (d : Int) : ∀ f l, ∀ s ∈ grF d f l, s.2.length ≤ 7
  | 0, _, s, h => by simp [grF] at h
  | f + 1, l, s, h => by
    unfold grF at h
    split at h
    · cases h
    · rcases List.mem_cons.1 h with rfl | h
      · exact runL_len _ _
      · exact gr_mem d f _ s h
theorem gr_len (d : Int) : ∀ f l, (grF d f l).length ≤ l.length
  | 0, l => by simp [grF]
  | f + 1, l => by
    unfold grF
    split
    · simp
    · rename_i h
      have := gr_len d f (l.drop (max (lg l d) 1))
      have hl : 0 < l.length := List.length_pos_iff.2 h
      simp at this ⊢
      omega
theorem grL_len (l : List Int) (d : Int) : (grL l d).length ≤ 60 := by
  unfold grL
  split
  · rename_i h
    unfold grB at h
    rw [Bool.and_eq_true, smallB_iff] at h
    have := gr_len d l.length l
    have h2 := h.1.1.2
    unfold gr; omega
  · simp
theorem grL_mem (l : List Int) (d : Int) : ∀ s ∈ grL l d, s.2.length ≤ 7 := by
  unfold grL
  split
  · exact gr_mem d _ l
  · intro s h; cases h
theorem RdI_form {w : World} {v : Value} {xs : List Int} (h : RdI w v xs) : ∃ a c, v = .slice a xs.length c := by
  obtain ⟨a, c, e, _⟩ := h
  exact ⟨a, c, by rw [e, List.length_map]⟩

end Go.Proofs.YtdfnclnjnmdboaaDoor
