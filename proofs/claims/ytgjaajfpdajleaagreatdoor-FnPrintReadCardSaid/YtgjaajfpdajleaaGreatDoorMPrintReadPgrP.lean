/- Lemmas and contracts for PrintRead (PgrP Pgr): plain words on memory, contracts of the functions that the law reaches. No condition but what each states. -/
import Derived.Test.YtgjaajfpdajleaaGreatDoorMPrintReadNumPl
import Derived.Test.YtgjaajfpdajleaaGreatDoorMPrintReadGrp
import Derived.Lib.Replace
import Derived.Lib.ReplaceLaws
import Derived.Lib.SplitLaws
import Derived.Test.YtgjaajfpdajleaaGreatDoorMPrintReadNumF
namespace Go.Proofs.YtgjaajfpdajleaaGreatDoor
set_option linter.unusedVariables false
open Go.RowKit

def nosp (l : List UInt8) : List UInt8 := l.filter fun c => c != 32
theorem index_cons (c b : UInt8) (l : List UInt8) : Lib.index (b :: l) [c] = if b = c then 0 else if Lib.index l [c] = -1 then -1 else Lib.index l [c] + 1 := by
  rw [Lib.index]
  by_cases h : b = c
  · subst h; simp [List.isPrefixOf]
  · have h' : ¬ c = b := fun e => h e.symm
    simp [List.isPrefixOf, h, h']
theorem index_nil (c : UInt8) : Lib.index [] [c] = -1 := rfl
theorem index_lo (c : UInt8) (l : List UInt8) : Lib.index l [c] = -1 ∨ ∃ i : Nat, Lib.index l [c] = i := by
  induction l with
  | nil => exact .inl rfl
  | cons b l ih =>
    rw [index_cons]
    by_cases h : b = c
    · rw [if_pos h]; exact .inr ⟨0, rfl⟩
    · rw [if_neg h]
      rcases ih with h1 | ⟨i, h1⟩
      · rw [if_pos h1]; exact .inl rfl
      · rw [if_neg (by omega), h1]; exact .inr ⟨i + 1, by simp⟩
theorem index_miss {c : UInt8} {l : List UInt8} (h : Lib.index l [c] = -1) : (l.filter fun x => x != c) = l := by
  induction l with
  | nil => rfl
  | cons b l ih =>
    rw [index_cons] at h
    by_cases e : b = c
    · rw [if_pos e] at h; exact absurd h (by decide)
    · rw [if_neg e] at h
      rcases index_lo c l with h1 | ⟨i, h1⟩
      · rw [List.filter_cons, if_pos (by simpa using e), ih h1]
      · rw [if_neg (by omega), h1] at h; omega
theorem replaceK_miss (c : UInt8) (k : Nat) (s : List UInt8) (h : Lib.index s [c] = -1) : Lib.replaceK [c] [] k s = s := by
  cases k with
  | zero => rfl
  | succ k => rw [Lib.replaceK]; simp [h]
theorem replaceK_one (c : UInt8) (s : List UInt8) : ∀ k, s.count c ≤ k → Lib.replaceK [c] [] k s = s.filter fun x => x != c := by
  induction s with
  | nil => intro k _; rw [replaceK_miss c k [] rfl]; rfl
  | cons b l ih =>
    intro k hk
    by_cases e : b = c
    · subst e
      rw [List.count_cons_self] at hk
      obtain ⟨k, rfl⟩ : ∃ k', k = k' + 1 := ⟨k - 1, by omega⟩
      rw [Lib.replaceK_hit [b] [] k (b :: l) 0 (by rw [index_cons, if_pos rfl]; rfl)]
      simp only [List.take_zero, List.nil_append, List.length_singleton, Nat.zero_add, List.drop_succ_cons, List.drop_zero]
      rw [ih k (by omega)]
      simp
    · rw [List.count_cons_of_ne (by simpa using e)] at hk
      rw [List.filter_cons, if_pos (by simpa using e)]
      rcases index_lo c l with h1 | ⟨i, h1⟩
      · rw [replaceK_miss c k (b :: l) (by rw [index_cons, if_neg e, if_pos h1]), index_miss h1]
      · have hpos : 0 < l.count c := by
          rcases Nat.eq_zero_or_pos (l.count c) with h0 | h0
          · exfalso
            have h2 := Lib.count_one c l
            have h3 : Lib.count l [c] = 0 := by omega
            have h4 : Lib.count l [c] = 1 + Lib.count (l.drop (i + [c].length)) [c] := Lib.count_hit (by simp) h1
            omega
          · exact h0
        obtain ⟨k, rfl⟩ : ∃ k', k = k' + 1 := ⟨k - 1, by omega⟩
        have hi := ih (k + 1) hk
        rw [Lib.replaceK_hit [c] [] k l i h1] at hi
        rw [Lib.replaceK_hit [c] [] k (b :: l) (i + 1) (by rw [index_cons, if_neg e, if_neg (by omega), h1]; simp)]
        rw [← hi]
        simp
theorem replace_sp (l : List UInt8) : Lib.replaceAll l [32] [] = nosp l := by
  unfold Lib.replaceAll Lib.replace Lib.replaceNum nosp
  rw [if_neg (by decide), if_pos (by left; decide)]
  exact replaceK_one 32 l _ (by rw [Lib.count_one]; exact Nat.le_refl _)
/-- the number of digits in groups -/
def pgP (l : List UInt8) : Option Int := (numP (nosp l)).bind fun n => if grpF n = l then some n else none
theorem pgP_none {l : List UInt8} (h : numP (nosp l) = none) : pgP l = none := by unfold pgP; rw [h]; rfl
theorem pgP_bad {l : List UInt8} {n : Int} (h : numP (nosp l) = some n) (h2 : grpF n ≠ l) : pgP l = none := by unfold pgP; rw [h]; simp [h2]
theorem pgP_good {l : List UInt8} {n : Int} (h : numP (nosp l) = some n) (h2 : grpF n = l) : pgP l = some n := by unfold pgP; rw [h]; simp [h2]
theorem nosp_take {l : List UInt8} {k : Nat} (h : k < l.length) : nosp (l.take (k + 1)) = nosp (l.take k) ++ (if l[k] = 32 then [] else [l[k]]) := by
  unfold nosp
  rw [List.take_succ_eq_append_getElem h, List.filter_append]
  congr 1
  by_cases e : l[k] = 32 <;> simp [e]
theorem nosp_len (l : List UInt8) : (nosp l).length ≤ l.length := List.length_filter_le _ _
theorem numP_nil : numP [] = none := rfl
end Go.Proofs.YtgjaajfpdajleaaGreatDoor

namespace Go.Proofs.YtgjaajfpdajleaaGreatDoor
set_option linter.unusedVariables false
open Go.RowKit

/-- the library's limit of short searches is some number -/
def MaxW (w : World) : Prop := ∃ m, w.cell? ⟨2, 0, none⟩ = some (.int .i64 m)
theorem MaxW.below {w w' : World} (h : MaxW w) (hb : Below w.heap.size w w') : MaxW w' := by
  obtain ⟨m, h⟩ := h
  have hlt := Lib.lt_of_cell h
  exact ⟨m, by rw [(bcell hb).1 _ _ hlt]; exact h⟩
def PgRet (l : List UInt8) (w : World) (e : Ending) (w' : World) : Prop := e = .returned (.tuple #[.int .i64 ((pgP l).getD 0), .bool (pgP l).isSome]) ∧ Below w.heap.size w w'
theorem pgRet_none {l : List UInt8} {w w' : World} (h : pgP l = none) (hB : Below w.heap.size w w') : PgRet l w (.returned (.tuple #[.int .i64 0, .bool false])) w' := by
  unfold PgRet; rw [h]; exact ⟨rfl, hB⟩
theorem pgRet_some {l : List UInt8} {n : Int} {w w' : World} (h : pgP l = some n) (hB : Below w.heap.size w w') : PgRet l w (.returned (.tuple #[.int .i64 n, .bool true])) w' := by
  unfold PgRet; rw [h]; exact ⟨rfl, hB⟩

end Go.Proofs.YtgjaajfpdajleaaGreatDoor
