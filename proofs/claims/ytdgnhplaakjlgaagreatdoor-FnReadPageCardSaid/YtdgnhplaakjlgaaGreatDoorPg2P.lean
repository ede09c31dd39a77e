/- Plain facts on the lines of a page: the line of a row, whether it fits, the page. No condition; no program in sight. -/
import Derived.Test.YtdgnhplaakjlgaaGreatDoorPg1
import Derived.Test.YtdgnhplaakjlgaaGreatDoorPsum2
namespace Go.Proofs.YtdgnhplaakjlgaaGreatDoor
set_option linter.unusedVariables false
open Go.RowKit

def entT (xs : List Int) (wd k : Nat) : List UInt8 := entL (xs.getD k 0) wd
def entK (xs : List Int) (wd k : Nat) : Bool := entB (xs.getD k 0) wd
/-- the first i cells of the line that begins at place f fit -/
def cellB (xs : List Int) (wd f r i : Nat) : Bool := (List.range i).all fun j => entK xs wd (f + j * r)
/-- .. and their text -/
def cellJ (xs : List Int) (wd f r i : Nat) : List UInt8 := Lib.join (cellsT (entT xs wd) f r i) [32]
def lnB (xs : List Int) (wd f r a : Nat) : Bool := cellB xs wd f r (nCol xs.length f r a)
def lnL (xs : List Int) (wd f r a : Nat) : List UInt8 := cellJ xs wd f r (nCol xs.length f r a)
def pgN (n s r : Nat) : Nat := min r (n - s)
def pgOk (xs : List Int) (wd s r a q : Nat) : Bool := (List.range q).all fun i => lnB xs wd (s + i) r a
def lnS (xs : List Int) (wd f r a : Nat) : ByteArray := ⟨(lnL xs wd f r a).toArray⟩
def pgLn (xs : List Int) (wd s r a q : Nat) : List ByteArray := (List.range q).map fun i => lnS xs wd (s + i) r a
/-- the page with its first place s: whether all fits, and its lines -/
def pgeB (xs : List Int) (wd s r a : Nat) : Bool := pgOk xs wd s r a (pgN xs.length s r)
def pgeF (xs : List Int) (wd s r a : Nat) : List ByteArray := if pgeB xs wd s r a = true then pgLn xs wd s r a (pgN xs.length s r) else []
def plinB (r a c : Int) (xs : List Int) (p : Int) : Bool := pgB r a c xs p && pgeB xs c.toNat (p * (r * a)).toNat r.toNat a.toNat
def plinS (r a c : Int) (xs : List Int) (p : Int) : List ByteArray := if pgB r a c xs p = true then pgeF xs c.toNat (p * (r * a)).toNat r.toNat a.toNat else []

theorem cellB_succ (xs : List Int) (wd f r i : Nat) : cellB xs wd f r (i + 1) = (cellB xs wd f r i && entK xs wd (f + i * r)) := by
  unfold cellB; rw [List.range_succ, List.all_append]; simp
theorem cellB_false {xs : List Int} {wd f r i n : Nat} (h : entK xs wd (f + i * r) = false) (hi : i < n) : cellB xs wd f r n = false := by
  unfold cellB
  rw [List.all_eq_false]
  exact ⟨i, List.mem_range.2 hi, by simp [h]⟩
theorem pgOk_succ (xs : List Int) (wd s r a q : Nat) : pgOk xs wd s r a (q + 1) = (pgOk xs wd s r a q && lnB xs wd (s + q) r a) := by
  unfold pgOk; rw [List.range_succ, List.all_append]; simp
theorem pgOk_false {xs : List Int} {wd s r a q n : Nat} (h : lnB xs wd (s + q) r a = false) (hq : q < n) : pgOk xs wd s r a n = false := by
  unfold pgOk
  rw [List.all_eq_false]
  exact ⟨q, List.mem_range.2 hq, by simp [h]⟩
theorem pgLn_succ (xs : List Int) (wd s r a q : Nat) : pgLn xs wd s r a (q + 1) = pgLn xs wd s r a q ++ [lnS xs wd (s + q) r a] := by
  unfold pgLn; rw [List.range_succ, List.map_append]; rfl
theorem pgLn_len (xs : List Int) (wd s r a q : Nat) : (pgLn xs wd s r a q).length = q := by simp [pgLn]
theorem cellsT_len (t : Nat → List UInt8) (f r c : Nat) : (cellsT t f r c).length = c := by simp [cellsT]
theorem cellJ_zero (xs : List Int) (wd f r : Nat) : cellJ xs wd f r 0 = [] := rfl
theorem cellJ_one (xs : List Int) (wd f r : Nat) : cellJ xs wd f r 1 = entT xs wd (f + 0 * r) := by
  unfold cellJ cellsT Lib.join; simp [List.range_succ, List.intercalate]
theorem cellJ_succ (xs : List Int) (wd f r i : Nat) (h : 0 < i) : cellJ xs wd f r (i + 1) = cellJ xs wd f r i ++ ([32] ++ entT xs wd (f + i * r)) := by
  unfold cellJ
  rw [cellsT_succ, join_snoc]
  · rfl
  · intro e
    have := cellsT_len (entT xs wd) f r i
    rw [e] at this
    simp at this
    omega
theorem entL_len {n : Int} {wd : Nat} (h : entB n wd = true) : (entL n wd).length = wd := by
  unfold entB at h
  have := of_decide_eq_true h
  unfold entL
  simp
  omega
theorem cellJ_len {xs : List Int} {wd f r i : Nat} (h : cellB xs wd f r i = true) : (cellJ xs wd f r i).length ≤ i * (wd + 1) := by
  induction i with
  | zero => simp [cellJ_zero]
  | succ i ih =>
    rw [cellB_succ, Bool.and_eq_true] at h
    have h1 := ih h.1
    have h2 := entL_len h.2
    have e : (i + 1) * (wd + 1) = i * (wd + 1) + (wd + 1) := by rw [Nat.add_mul]; omega
    by_cases h0 : 0 < i
    · rw [cellJ_succ _ _ _ _ _ h0]
      simp only [List.length_append, List.length_cons, List.length_nil]
      unfold entT
      omega
    · obtain rfl : i = 0 := by omega
      rw [cellJ_one]
      unfold entT
      omega
theorem nCol_eq {n f r a i : Nat} (h1 : i ≤ nCol n f r a) (h2 : a ≤ i ∨ n ≤ f + i * r) : nCol n f r a = i := by
  have h3 := nCol_le n f r a
  rcases h2 with h2 | h2
  · omega
  · by_cases h : i < nCol n f r a
    · have := nCol_in h; omega
    · omega
theorem nCol_lt {n f r a i : Nat} (ha : i < a) (h : f + i * r < n) : i < nCol n f r a := by
  by_cases h1 : i < nCol n f r a
  · exact h1
  · have := nCol_out (n := n) (f := f) (r := r) (a := a) (i := i) (by omega) ha
    omega
end Go.Proofs.YtdgnhplaakjlgaaGreatDoor
