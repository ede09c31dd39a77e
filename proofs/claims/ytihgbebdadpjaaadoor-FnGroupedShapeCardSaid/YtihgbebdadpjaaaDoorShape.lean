/- Plain facts on digits in groups. No condition; no program in sight. -/
import Derived.Test.YtihgbebdadpjaaaDoorGrp
namespace Go.Proofs.YtihgbebdadpjaaaDoor
set_option linter.unusedVariables false

def isDg (c : UInt8) : Prop := 48 ≤ c.toNat ∧ c.toNat ≤ 57
/-- from the right, three digits and a space alternate -/
def Shape : List UInt8 → Prop
  | [] => True
  | c :: l => Shape l ∧ (if l.length % 4 = 3 then c = 32 else isDg c)
def sufL : List UInt8 → List UInt8
  | [] => []
  | d :: r => (if (r.length + 1) % 3 = 0 then [32] else []) ++ d :: sufL r
theorem sufL_len (l : List UInt8) : (sufL l).length = l.length + l.length / 3 := by
  induction l with
  | nil => rfl
  | cons d r ih =>
    rw [sufL]
    split
    · simp only [List.length_append, List.length_cons, List.length_nil, ih]; omega
    · simp only [List.length_append, List.length_cons, List.length_nil, ih]; omega
theorem shape_suf (l : List UInt8) (h : ∀ c ∈ l, isDg c) : Shape (sufL l) := by
  induction l with
  | nil => trivial
  | cons d r ih =>
    have h1 := ih (fun c hc => h c (List.mem_cons_of_mem _ hc))
    have hd := h d (List.mem_cons_self ..)
    have hl := sufL_len r
    rw [sufL]
    split
    · rename_i h3
      show Shape (32 :: d :: sufL r)
      refine ⟨⟨h1, ?_⟩, ?_⟩
      · rw [if_neg (by omega)]; exact hd
      · rw [List.length_cons, if_pos (by omega)]
    · rename_i h3
      refine ⟨h1, ?_⟩
      rw [if_neg (by omega)]; exact hd
theorem grp_suf (t : List UInt8) (d : Nat) : ∀ k, 1 ≤ k → k + d = t.length → grpK t t.length = grpK t k ++ sufL (t.drop k) := by
  induction d with
  | zero =>
    intro k h1 h2
    rw [show k = t.length by omega, List.drop_length, sufL, List.append_nil]
  | succ d ih =>
    intro k h1 h2
    rw [ih (k + 1) (by omega) (by omega)]
    have hk : k < t.length := by omega
    rw [List.drop_eq_getElem_cons hk, sufL, grpK, take1 hk]
    have hl : (t.drop (k + 1)).length + 1 = t.length - k := by rw [List.length_drop]; omega
    rw [hl]
    by_cases h3 : (t.length - k) % 3 = 0
    · rw [if_pos ⟨by omega, h3⟩, if_pos h3]; simp
    · rw [if_neg (fun q => h3 q.2), if_neg h3]; simp
theorem dec_dg (u : Nat) : ∀ c ∈ Lib.decDigits u, isDg c := by
  induction u using Nat.strongRecOn with
  | _ u ih =>
    intro c hc
    rw [Lib.decDigits] at hc
    split at hc
    · rename_i h
      simp only [List.mem_singleton] at hc
      subst hc
      unfold isDg
      rw [UInt8.toNat_ofNat']
      omega
    · rename_i h
      rcases List.mem_append.1 hc with hc | hc
      · exact ih (u / 10) (by omega) c hc
      · simp only [List.mem_singleton] at hc
        subst hc
        unfold isDg
        rw [UInt8.toNat_ofNat']
        omega
theorem dec_pos (u : Nat) : 1 ≤ (Lib.decDigits u).length := by rw [Lib.decDigits_length]; exact Lib.nDigits_pos u
theorem grpN_shape (n : Nat) : Shape (grpN n) ∧ (grpN n).length % 4 ≠ 0 := by
  have hp := dec_pos n
  have hd := dec_dg n
  unfold grpN
  generalize Lib.decDigits n = t at hp hd
  have h1 := grp_suf t (t.length - 1) 1 (Nat.le_refl _) (by omega)
  rw [h1, grpK, grpK]
  have h0 : 0 < t.length := by omega
  rw [if_neg (fun q => absurd q.1 (by omega)), take1 h0]
  simp only [List.nil_append, List.singleton_append]
  have hl := sufL_len (t.drop 1)
  refine ⟨⟨shape_suf _ (fun c hc => hd c (List.mem_of_mem_drop hc)), ?_⟩, ?_⟩
  · rw [if_neg (by omega)]; exact hd _ (List.getElem_mem h0)
  · rw [List.length_cons]; omega
theorem shape_at {l : List UInt8} (h : Shape l) {k : Nat} (hk : k < l.length) : if (l.length - 1 - k) % 4 = 3 then l[k] = 32 else isDg l[k] := by
  induction l generalizing k with
  | nil => simp at hk
  | cons c l ih =>
    cases k with
    | zero => have h2 := h.2; simpa using h2
    | succ k =>
      have hk' : k < l.length := by simpa using hk
      have := ih h.1 hk'
      rw [List.getElem_cons_succ, List.length_cons, show l.length + 1 - 1 - (k + 1) = l.length - 1 - k by omega]
      exact this
end Go.Proofs.YtihgbebdadpjaaaDoor
