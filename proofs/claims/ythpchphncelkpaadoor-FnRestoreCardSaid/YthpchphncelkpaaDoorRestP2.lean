/- Plain facts: a shortened column is restored. No condition; no program in sight. -/
import Derived.Test.YthpchphncelkpaaDoorRestP
namespace Go.Proofs.YthpchphncelkpaaDoor
set_option linter.unusedVariables false

theorem shL_take (a b : List UInt8) : a.take (shL a b) = b.take (shL a b) := by
  induction a generalizing b with
  | nil => simp [shL]
  | cons x a ih =>
    match a, b, ih with
    | [], _, _ => simp [shL]
    | y :: l, [], _ => simp [shL]
    | y :: l, z :: b, ih =>
      rw [shL]
      split
      · rename_i h
        subst h
        rw [Nat.add_comm, List.take_succ_cons, List.take_succ_cons, ih b]
      · simp
theorem lead_rep (n : Nat) (l : List UInt8) : lead (List.replicate n 32 ++ l) = n + lead l := by
  induction n with
  | zero => simp
  | succ n ih =>
    unfold lead at ih ⊢
    rw [List.replicate_succ, List.cons_append, List.takeWhile_cons]
    simp only [beq_self_eq_true, if_true, List.length_cons, ih]
    omega
theorem lead_dg {l : List UInt8} (h : ∀ c ∈ l, c ≠ 32) : lead l = 0 := by
  match l, h with
  | [], _ => rfl
  | c :: l, h =>
    have := h c (List.mem_cons_self ..)
    unfold lead
    rw [List.takeWhile_cons]
    simp [this]
theorem colB_nsp {s : ByteArray} (h : colB s = true) : ∀ c ∈ s.data.toList, c ≠ 32 := by
  intro c hc e
  have := (colB_iff h).2.2
  have := List.all_eq_true.1 this c hc
  rw [e] at this
  exact absurd this (by decide)
theorem shoN_bd {xs : List ByteArray} (h : colsB xs = true) {k : Nat} (hk : k < xs.length) : shoN xs k < (xs.getD k noS).size ∧ (0 < k → (xs.getD (k - 1) noS).data.toList.take (shoN xs k) = (xs.getD k noS).data.toList.take (shoN xs k)) ∧ (k = 0 → shoN xs k = 0) := by
  obtain ⟨_, ha⟩ := colsB_iff h
  have h1 := (ha (xs.getD k noS) (by simp [List.getD, hk])).1
  obtain ⟨c1, c2, _⟩ := colB_iff h1
  unfold shoN
  by_cases h0 : k = 0
  · rw [if_pos h0]; exact ⟨by omega, fun q => by omega, fun _ => rfl⟩
  · rw [if_neg h0]
    have := shL_le (xs.getD k noS).data.toList (xs.getD (k - 1) noS).data.toList
    rw [size_data] at this
    exact ⟨by omega, fun _ => (shL_take _ _).symm, fun q => absurd q h0⟩
theorem shorF_getD {xs : List ByteArray} (h : colsB xs = true) {k : Nat} (hk : k < xs.length) : (shorF xs).getD k noS = shoE xs k := by
  unfold shorF; rw [if_pos h]; simp [List.getD, hk]
theorem above_shor {xs : List ByteArray} (h : colsB xs = true) {k : Nat} (hk : k ≤ xs.length) : aboveL (shorF xs) k = if k = 0 then [] else (xs.getD (k - 1) noS).data.toList := by
  induction k with
  | zero => rfl
  | succ k ih =>
    have hk' : k < xs.length := by omega
    obtain ⟨_, ha⟩ := colsB_iff h
    obtain ⟨b1, b2, b3⟩ := shoN_bd h hk'
    have hc := (ha (xs.getD k noS) (by simp [List.getD, hk'])).1
    have hl : (shorF xs).length = xs.length := by unfold shorF; rw [if_pos h]; simp
    rw [aboveL, ih (by omega), shorF_getD h hk', if_neg (Nat.succ_ne_zero k), Nat.add_sub_cancel]
    have he : (shoE xs k).data.toList = shoL (shoN xs k) (xs.getD k noS) := by simp [shoE]
    rw [he]
    obtain ⟨n, hn⟩ : ∃ n, shoN xs k = n := ⟨_, rfl⟩
    obtain ⟨x, hx⟩ : ∃ x, xs.getD k noS = x := ⟨_, rfl⟩
    rw [hn, hx] at b1 b2
    rw [hx] at hc
    rw [hn] at b3
    rw [hn, hx]
    have hld : lead (shoL n x) = n := by
      unfold shoL
      rw [lead_rep, lead_dg (fun c hc2 => colB_nsp hc c (List.mem_of_mem_drop hc2))]
      rfl
    unfold fillL fillN
    rw [hld]
    by_cases h0 : k = 0
    · rw [if_pos h0, b3 h0]
      simp [shoL]
    · rw [if_neg h0]
      have hs1 : (xs.getD (k - 1) noS).data.toList.length = x.size := by
        rw [size_data, (ha (xs.getD (k - 1) noS) (by simp [List.getD, show k - 1 < xs.length by omega])).2, ← (ha (xs.getD k noS) (by simp [List.getD, hk'])).2, hx]
      rw [show min n (xs.getD (k - 1) noS).data.toList.length = n by omega, b2 (by omega)]
      unfold shoL
      rw [List.drop_left' (by simp), List.take_append_drop]
theorem rest_shor {xs : List ByteArray} (h : colsB xs = true) : restL [] (shorF xs) = xs := by
  have hl : (shorF xs).length = xs.length := by unfold shorF; rw [if_pos h]; simp
  rw [restL_eq, hl]
  apply List.ext_getElem
  · simp
  · intro i h1 h2
    simp only [List.getElem_map, List.getElem_range]
    rw [above_shor h (by omega), if_neg (Nat.succ_ne_zero i), Nat.add_sub_cancel, show xs.getD i noS = xs[i] by simp [List.getD, h2]]
theorem resF_shor {xs : List ByteArray} (h : colsB xs = true) : resF (shorF xs) = xs := by
  unfold resF; rw [rest_shor h, if_pos rfl]
/-- each shortened text keeps its length and its last digit -/
theorem shoE_facts {xs : List ByteArray} (h : colsB xs = true) {k : Nat} (hk : k < xs.length) : (shoE xs k).size = (xs.getD k noS).size ∧ 1 ≤ (xs.getD k noS).size ∧ (shoE xs k).data.toList.getLast? ≠ some 32 := by
  obtain ⟨_, ha⟩ := colsB_iff h
  obtain ⟨b1, _, _⟩ := shoN_bd h hk
  have hc := (ha (xs.getD k noS) (by simp [List.getD, hk])).1
  have hs := size_data (xs.getD k noS)
  refine ⟨?_, by omega, ?_⟩
  · rw [(shoE_is xs k).size]
    unfold shoL
    rw [List.length_append, List.length_replicate, List.length_drop, hs]
    omega
  · have he : (shoE xs k).data.toList = shoL (shoN xs k) (xs.getD k noS) := by simp [shoE]
    rw [he]
    unfold shoL
    rw [List.getLast?_append]
    intro e
    have hd : ((xs.getD k noS).data.toList.drop (shoN xs k)).getLast? = some 32 := by
      cases h9 : ((xs.getD k noS).data.toList.drop (shoN xs k)).getLast? with
      | none =>
        rw [List.getLast?_eq_none_iff] at h9
        have := congrArg List.length h9
        rw [List.length_drop, hs, List.length_nil] at this
        omega
      | some c => rw [h9] at e; simpa using e
    exact colB_nsp hc 32 (List.mem_of_mem_drop (List.mem_of_getLast? hd)) rfl
end Go.Proofs.YthpchphncelkpaaDoor
