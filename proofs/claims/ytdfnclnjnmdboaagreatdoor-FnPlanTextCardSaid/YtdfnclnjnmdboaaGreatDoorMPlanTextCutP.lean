/- Lemmas and contracts for PlanText (CutP): plain words on memory, contracts of the functions that the law reaches. No condition but what each states. -/
import Derived.Test.YtdfnclnjnmdboaaGreatDoorMPlanTextNumPl
import Derived.Lib.Split
import Derived.Lib.CountLaws
import Derived.Lib.SplitLaws
namespace Go.Proofs.YtdfnclnjnmdboaaGreatDoor
set_option linter.unusedVariables false
open Go.RowKit

theorem index_cons (c b : UInt8) (l : List UInt8) : Lib.index (b :: l) [c] = if b = c then 0 else if Lib.index l [c] = -1 then -1 else Lib.index l [c] + 1 := by
  rw [Lib.index]
  by_cases h : b = c
  · subst h; simp [List.isPrefixOf]
  · have h' : ¬ c = b := fun e => h e.symm
    simp [List.isPrefixOf, h, h']
theorem index_nil (c : UInt8) : Lib.index [] [c] = -1 := rfl
theorem index_lo (c : UInt8) (l : List UInt8) : Lib.index l [c] = -1 ∨ ∃ i : Nat, Lib.index l [c] = i := by
  induction l with
  | nil => exact .inl rfl
  | cons b l ih =>
    rw [index_cons]
    by_cases h : b = c
    · rw [if_pos h]; exact .inr ⟨0, rfl⟩
    · rw [if_neg h]
      rcases ih with h1 | ⟨i, h1⟩
      · rw [if_pos h1]; exact .inl rfl
      · rw [if_neg (by omega), h1]; exact .inr ⟨i + 1, by simp⟩
/-- a text cut at every byte c -/
def cutP (c : UInt8) : List UInt8 → List (List UInt8)
  | [] => [[]]
  | b :: l => if b = c then [] :: cutP c l else match cutP c l with
    | [] => [[b]]
    | h :: t => (b :: h) :: t
theorem cutP_ne (c : UInt8) (l : List UInt8) : cutP c l ≠ [] := by
  cases l with
  | nil => simp [cutP]
  | cons b l =>
    unfold cutP
    split
    · simp
    · split <;> simp
theorem cutP_hit (c : UInt8) (x r : List UInt8) (h : c ∉ x) : cutP c (x ++ c :: r) = x :: cutP c r := by
  induction x with
  | nil => simp [cutP]
  | cons b x ih =>
    simp only [List.mem_cons, not_or] at h
    rw [List.cons_append, cutP, if_neg (fun e => h.1 e.symm), ih h.2]
theorem cutP_end (c : UInt8) (x : List UInt8) (h : c ∉ x) : cutP c x = [x] := by
  induction x with
  | nil => rfl
  | cons b x ih =>
    simp only [List.mem_cons, not_or] at h
    rw [cutP, if_neg (fun e => h.1 e.symm), ih h.2]
def bytS (l : List UInt8) : ByteArray := ⟨l.toArray⟩
theorem bytS_data (l : List UInt8) : (bytS l).data.toList = l := by simp [bytS]
theorem bytS_of (s : ByteArray) : bytS s.data.toList = s := by
  have : IsS s s.data.toList := rfl
  exact this.eq.symm
def cutS (c : UInt8) (l : List UInt8) : List ByteArray := (cutP c l).map bytS

theorem index_split {c : UInt8} {s : List UInt8} {i : Nat} (h : Lib.index s [c] = i) : i < s.length ∧ s = s.take i ++ c :: s.drop (i + 1) ∧ c ∉ s.take i := by
  induction s generalizing i with
  | nil => rw [index_nil] at h; omega
  | cons b s ih =>
    rw [index_cons] at h
    by_cases e : b = c
    · rw [if_pos e] at h
      obtain rfl : i = 0 := by omega
      subst e
      simp
    · rw [if_neg e] at h
      rcases index_lo c s with h1 | ⟨j, h1⟩
      · rw [if_pos h1] at h; omega
      · rw [if_neg (by omega), h1] at h
        obtain rfl : i = j + 1 := by omega
        obtain ⟨g1, g2, g3⟩ := ih h1
        refine ⟨by simp; omega, ?_, ?_⟩
        · rw [List.take_succ_cons, List.drop_succ_cons, List.cons_append, ← g2]
        · rw [List.take_succ_cons]
          simp only [List.mem_cons, not_or]
          exact ⟨fun q => e q.symm, g3⟩
theorem index_none {c : UInt8} {s : List UInt8} (h : Lib.index s [c] = -1) : c ∉ s := by
  induction s with
  | nil => simp
  | cons b s ih =>
    rw [index_cons] at h
    by_cases e : b = c
    · rw [if_pos e] at h; omega
    · rw [if_neg e] at h
      rcases index_lo c s with h1 | ⟨j, h1⟩
      · simp only [List.mem_cons, not_or]; exact ⟨fun q => e q.symm, ih h1⟩
      · rw [if_neg (by omega), h1] at h; omega
theorem splitK_one (c : UInt8) : ∀ (k : Nat) (s : List UInt8), Lib.count s [c] = k → Lib.splitK [c] 0 k s = cutP c s := by
  intro k
  induction k with
  | zero =>
    intro s h
    have hn : c ∉ s := by
      rcases index_lo c s with h1 | ⟨i, h1⟩
      · exact index_none h1
      · have := Lib.count_hit (sub := [c]) (by simp) h1; omega
    rw [cutP_end c s hn]
    rfl
  | succ k ih =>
    intro s h
    rcases index_lo c s with h1 | ⟨i, h1⟩
    · rw [Lib.count_miss h1] at h; omega
    · have h2 := Lib.count_hit (sub := [c]) (by simp) h1
      obtain ⟨g1, g2, g3⟩ := index_split h1
      have h3 : Lib.splitK [c] 0 (k + 1) s = s.take (i + 0) :: Lib.splitK [c] 0 k (s.drop (i + [c].length)) := by
        rw [Lib.splitK, h1]
        rw [if_neg (by simp)]
        rfl
      rw [h3, Nat.add_zero, ih _ (by rw [h] at h2; omega)]
      conv => rhs; rw [g2]
      rw [cutP_hit c _ _ g3]
      rfl
theorem split_one (c : UInt8) (s : List UInt8) : Lib.split s [c] = cutP c s := splitK_one c _ s rfl
theorem cutP_len (c : UInt8) (l : List UInt8) : (cutP c l).length ≤ l.length + 1 := by
  induction l with
  | nil => simp [cutP]
  | cons b l ih =>
    unfold cutP
    split
    · simp; exact ih
    · split
      · simp
      · rename_i h t e
        rw [e] at ih
        simp at ih ⊢
        omega
theorem cutS_len (c : UInt8) (l : List UInt8) : (cutS c l).length ≤ l.length + 1 := by unfold cutS; rw [List.length_map]; exact cutP_len c l
theorem splitB_cutC (c : UInt8) (x : ByteArray) : Lib.splitB ⟨#[c]⟩ 0 (Lib.countB x ⟨#[c]⟩) x = cutS c x.data.toList := by
  have h1 := Lib.splitB_data ⟨#[c]⟩ 0 (Lib.countB x ⟨#[c]⟩) x
  have h2 : Lib.splitK [c] 0 (Lib.count x.data.toList [c]) x.data.toList = cutP c x.data.toList := split_one c x.data.toList
  unfold cutS
  rw [← h2]
  have h3 : Lib.splitK [c] 0 (Lib.count x.data.toList [c]) x.data.toList = (Lib.splitB ⟨#[c]⟩ 0 (Lib.countB x ⟨#[c]⟩) x).map (·.data.toList) := h1.symm
  rw [h3, List.map_map, show (bytS ∘ fun x : ByteArray => x.data.toList) = id from funext fun x => bytS_of x]
  simp
theorem splitB_cut (x : ByteArray) : Lib.splitB ⟨#[10]⟩ 0 (Lib.countB x ⟨#[10]⟩) x = cutS 10 x.data.toList := splitB_cutC 10 x
end Go.Proofs.YtdfnclnjnmdboaaGreatDoor
