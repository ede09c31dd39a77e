/- Lemmas and contracts for WholeSheet (Pg2P PtP): plain words on memory, contracts of the functions that the law reaches. No condition but what each states. -/
import Derived.Test.YtdgnhplaakjlgaaGreatDoorMWholeSheetPg1
import Derived.Test.YtdgnhplaakjlgaaGreatDoorMWholeSheetPsum2
namespace Go.Proofs.YtdgnhplaakjlgaaGreatDoor
set_option linter.unusedVariables false
open Go.RowKit

def entT (xs : List Int) (wd k : Nat) : List UInt8 := entL (xs.getD k 0) wd
def entK (xs : List Int) (wd k : Nat) : Bool := entB (xs.getD k 0) wd
/-- the first i cells of the line that begins at place f fit -/
def cellB (xs : List Int) (wd f r i : Nat) : Bool := (List.range i).all fun j => entK xs wd (f + j * r)
/-- .. and their text -/
def cellJ (xs : List Int) (wd f r i : Nat) : List UInt8 := Lib.join (cellsT (entT xs wd) f r i) [32]
def lnB (xs : List Int) (wd f r a : Nat) : Bool := cellB xs wd f r (nCol xs.length f r a)
def lnL (xs : List Int) (wd f r a : Nat) : List UInt8 := cellJ xs wd f r (nCol xs.length f r a)
def pgN (n s r : Nat) : Nat := min r (n - s)
def pgOk (xs : List Int) (wd s r a q : Nat) : Bool := (List.range q).all fun i => lnB xs wd (s + i) r a
def lnS (xs : List Int) (wd f r a : Nat) : ByteArray := ⟨(lnL xs wd f r a).toArray⟩
def pgLn (xs : List Int) (wd s r a q : Nat) : List ByteArray := (List.range q).map fun i => lnS xs wd (s + i) r a
/-- the page with its first place s: whether all fits, and its lines -/
def pgeB (xs : List Int) (wd s r a : Nat) : Bool := pgOk xs wd s r a (pgN xs.length s r)
def pgeF (xs : List Int) (wd s r a : Nat) : List ByteArray := if pgeB xs wd s r a = true then pgLn xs wd s r a (pgN xs.length s r) else []
def plinB (r a c : Int) (xs : List Int) (p : Int) : Bool := pgB r a c xs p && pgeB xs c.toNat (p * (r * a)).toNat r.toNat a.toNat
def plinS (r a c : Int) (xs : List Int) (p : Int) : List ByteArray := if pgB r a c xs p = true then pgeF xs c.toNat (p * (r * a)).toNat r.toNat a.toNat else []

theorem cellB_succ (xs : List Int) (wd f r i : Nat) : cellB xs wd f r (i + 1) = (cellB xs wd f r i && entK xs wd (f + i * r)) := by
  unfold cellB; rw [List.range_succ, List.all_append]; simp
theorem cellB_false {xs : List Int} {wd f r i n : Nat} (h : entK xs wd (f + i * r) = false) (hi : i < n) : cellB xs wd f r n = false := by
  unfold cellB
  rw [List.all_eq_false]
  exact ⟨i, List.mem_range.2 hi, by simp [h]⟩
theorem pgOk_succ (xs : List Int) (wd s r a q : Nat) : pgOk xs wd s r a (q + 1) = (pgOk xs wd s r a q && lnB xs wd (s + q) r a) := by
  unfold pgOk; rw [List.range_succ, List.all_append]; simp
theorem pgOk_false {xs : List Int} {wd s r a q n : Nat} (h : lnB xs wd (s + q) r a = false) (hq : q < n) : pgOk xs wd s r a n = false := by
  unfold pgOk
  rw [List.all_eq_false]
  exact ⟨q, List.mem_range.2 hq, by simp [h]⟩
theorem pgLn_succ (xs : List Int) (wd s r a q : Nat) : pgLn xs wd s r a (q + 1) = pgLn xs wd s r a q ++ [lnS xs wd (s + q) r a] := by
  unfold pgLn; rw [List.range_succ, List.map_append]; rfl
theorem pgLn_len (xs : List Int) (wd s r a q : Nat) : (pgLn xs wd s r a q).length = q := by simp [pgLn]
theorem cellsT_len (t : Nat → List UInt8) (f r c : Nat) : (cellsT t f r c).length = c := by simp [cellsT]
theorem cellJ_zero (xs : List Int) (wd f r : Nat) : cellJ xs wd f r 0 = [] := rfl
theorem cellJ_one (xs : List Int) (wd f r : Nat) : cellJ xs wd f r 1 = entT xs wd (f + 0 * r) := by
  unfold cellJ cellsT Lib.join; simp [List.range_succ, List.intercalate]
theorem cellJ_succ (xs : List Int) (wd f r i : Nat) (h : 0 < i) : cellJ xs wd f r (i + 1) = cellJ xs wd f r i ++ ([32] ++ entT xs wd (f + i * r)) := by
  unfold cellJ
  rw [cellsT_succ, join_snoc]
  · rfl
  · intro e
    have := cellsT_len (entT xs wd) f r i
    rw [e] at this
    simp at this
    omega
theorem entL_len {n : Int} {wd : Nat} (h : entB n wd = true) : (entL n wd).length = wd := by
  unfold entB at h
  have := of_decide_eq_true h
  unfold entL
  simp
  omega
theorem cellJ_len {xs : List Int} {wd f r i : Nat} (h : cellB xs wd f r i = true) : (cellJ xs wd f r i).length ≤ i * (wd + 1) := by
  induction i with
  | zero => simp [cellJ_zero]
  | succ i ih =>
    rw [cellB_succ, Bool.and_eq_true] at h
    have h1 := ih h.1
    have h2 := entL_len h.2
    have e : (i + 1) * (wd + 1) = i * (wd + 1) + (wd + 1) := by rw [Nat.add_mul]; omega
    by_cases h0 : 0 < i
    · rw [cellJ_succ _ _ _ _ _ h0]
      simp only [List.length_append, List.length_cons, List.length_nil]
      unfold entT
      omega
    · obtain rfl : i = 0 := by omega
      rw [cellJ_one]
      unfold entT
      omega
theorem nCol_eq {n f r a i : Nat} (h1 : i ≤ nCol n f r a) (h2 : a ≤ i ∨ n ≤ f + i * r) : nCol n f r a = i := by
  have h3 := nCol_le n f r a
  rcases h2 with h2 | h2
  · omega
  · by_cases h : i < nCol n f r a
    · have := nCol_in h; omega
    · omega
theorem nCol_lt {n f r a i : Nat} (ha : i < a) (h : f + i * r < n) : i < nCol n f r a := by
  by_cases h1 : i < nCol n f r a
  · exact h1
  · have := nCol_out (n := n) (f := f) (r := r) (a := a) (i := i) (by omega) ha
    omega
end Go.Proofs.YtdgnhplaakjlgaaGreatDoor

namespace Go.Proofs.YtdgnhplaakjlgaaGreatDoor
set_option linter.unusedVariables false
open Go.RowKit

/-- lines, each with its end -/
def linT (L : List ByteArray) : List UInt8 := (L.map fun y => y.data.toList ++ [10]).flatten
/-- the first q pages -/
def tbT (f : Nat → List ByteArray) (q : Nat) : List UInt8 := ((List.range q).map fun i => (if 0 < i then [10] else []) ++ linT (f i)).flatten
theorem linT_nil : linT [] = [] := rfl
theorem linT_snoc (L : List ByteArray) (y : ByteArray) : linT (L ++ [y]) = linT L ++ (y.data.toList ++ [10]) := by
  unfold linT; rw [List.map_append, List.flatten_append]; simp
theorem linT_take (L : List ByteArray) (k : Nat) (h : k < L.length) : linT (L.take (k + 1)) = linT (L.take k) ++ ((L.getD k noS).data.toList ++ [10]) := by
  rw [List.take_add_one, List.getElem?_eq_getElem h, Option.toList_some, linT_snoc]
  simp [List.getD, h]
theorem tbT_zero (f : Nat → List ByteArray) : tbT f 0 = [] := rfl
theorem tbT_succ (f : Nat → List ByteArray) (q : Nat) : tbT f (q + 1) = tbT f q ++ ((if 0 < q then [10] else []) ++ linT (f q)) := by
  unfold tbT; rw [List.range_succ, List.map_append, List.flatten_append]; simp
theorem linT_len {L : List ByteArray} {m : Nat} (h : ∀ y ∈ L, y.size ≤ m) : (linT L).length ≤ L.length * (m + 1) := by
  induction L with
  | nil => simp [linT]
  | cons y L ih =>
    have h1 := ih (fun z hz => h z (by simp [hz]))
    have h2 := h y (by simp)
    unfold linT at h1 ⊢
    have e : (y :: L).length * (m + 1) = L.length * (m + 1) + (m + 1) := by rw [List.length_cons, Nat.add_mul]; omega
    rw [List.map_cons, List.flatten_cons, List.length_append, List.length_append, size_data, e]
    simp only [List.length_cons, List.length_nil]
    omega
/-- a page's lines are short and few -/
theorem pgeF_small {xs : List Int} {C s R A : Nat} (hR : R ≤ 20) (hA : A ≤ 6) (hC : C ≤ 12) : (pgeF xs C s R A).length ≤ 20 ∧ ∀ y ∈ pgeF xs C s R A, y.size ≤ 78 := by
  unfold pgeF
  by_cases h : pgeB xs C s R A = true
  · rw [if_pos h]
    refine ⟨by rw [pgLn_len]; unfold pgN; omega, ?_⟩
    intro y hy
    unfold pgLn at hy
    obtain ⟨q, hq, rfl⟩ := List.mem_map.1 hy
    have hq := List.mem_range.1 hq
    unfold pgeB pgOk at h
    have h1 : lnB xs C (s + q) R A = true := List.all_eq_true.1 h q (List.mem_range.2 hq)
    unfold lnB at h1
    have h2 := cellJ_len h1
    have h3 : nCol xs.length (s + q) R A * (C + 1) ≤ 6 * 13 := Nat.mul_le_mul (by have := nCol_le xs.length (s + q) R A; omega) (by omega)
    have h4 : IsS (lnS xs C (s + q) R A) (lnL xs C (s + q) R A) := IsS.mk _
    rw [h4.size]
    unfold lnL
    omega
  · rw [if_neg h]
    exact ⟨by simp, fun y hy => absurd hy (by simp)⟩
theorem plinS_small (r a c : Int) (xs : List Int) (p : Int) : (plinS r a c xs p).length ≤ 20 ∧ ∀ y ∈ plinS r a c xs p, y.size ≤ 78 := by
  unfold plinS
  by_cases h : pgB r a c xs p = true
  · rw [if_pos h]
    obtain ⟨hl, _⟩ := pgB_iff h
    obtain ⟨l1, l2, l3, l4, l5, l6, _⟩ := lay_mul hl
    exact pgeF_small (by omega) (by omega) (by omega)
  · rw [if_neg h]
    exact ⟨by simp, fun y hy => absurd hy (by simp)⟩
/-- the pages of a table -/
def ptN (r a c : Int) (xs : List Int) : Nat := (pnF r a c xs.length).toNat
def ptOk (r a c : Int) (xs : List Int) (q : Nat) : Bool := (List.range q).all fun i => plinB r a c xs (i : Int)
def ptT (r a c : Int) (xs : List Int) (q : Nat) : List UInt8 := tbT (fun i => plinS r a c xs (i : Int)) q
def ptV (r a c : Int) (xs : List Int) : Bool := layB r a c && tabB xs
def ptB (r a c : Int) (xs : List Int) : Bool := ptV r a c xs && ptOk r a c xs (ptN r a c xs)
def ptF (r a c : Int) (xs : List Int) : List UInt8 := if ptB r a c xs = true then ptT r a c xs (ptN r a c xs) else []
theorem ptOk_succ (r a c : Int) (xs : List Int) (q : Nat) : ptOk r a c xs (q + 1) = (ptOk r a c xs q && plinB r a c xs (q : Int)) := by
  unfold ptOk; rw [List.range_succ, List.all_append]; simp
theorem ptOk_false {r a c : Int} {xs : List Int} {q n : Nat} (h : plinB r a c xs (q : Int) = false) (hq : q < n) : ptOk r a c xs n = false := by
  unfold ptOk
  rw [List.all_eq_false]
  exact ⟨q, List.mem_range.2 hq, by simp [h]⟩
theorem ptT_succ (r a c : Int) (xs : List Int) (q : Nat) : ptT r a c xs (q + 1) = ptT r a c xs q ++ ((if 0 < q then [10] else []) ++ linT (plinS r a c xs (q : Int))) := tbT_succ _ _
theorem ptT_len (r a c : Int) (xs : List Int) (q : Nat) : (ptT r a c xs q).length ≤ q * 1581 := by
  induction q with
  | zero => simp [ptT, tbT]
  | succ q ih =>
    rw [ptT_succ, List.length_append, List.length_append]
    obtain ⟨h1, h2⟩ := plinS_small r a c xs (q : Int)
    have h3 := linT_len h2
    have h4 : (plinS r a c xs (q : Int)).length * (78 + 1) ≤ 20 * 79 := Nat.mul_le_mul h1 (Nat.le_refl _)
    have h5 : (if 0 < q then [(10 : UInt8)] else []).length ≤ 1 := by split <;> simp
    omega
theorem ptN_bd {r a c : Int} {xs : List Int} (h : ptV r a c xs = true) : pnF r a c xs.length = (ptN r a c xs : Int) ∧ ptN r a c xs ≤ 60 := by
  unfold ptV at h
  rw [Bool.and_eq_true] at h
  obtain ⟨hl, ht⟩ := h
  obtain ⟨t1, t2, _⟩ := tabB_iff ht
  obtain ⟨l1, l2, l3, l4, l5, l6, l7, l8⟩ := lay_mul hl
  have e : pnF r a c xs.length = ((xs.length : Int) + r * a - 1) / (r * a) := if_pos ⟨hl, by omega, by omega⟩
  have h1 := Int.ediv_nonneg (show (0 : Int) ≤ (xs.length : Int) + r * a - 1 by omega) (show (0 : Int) ≤ r * a by omega)
  have h2 : ((xs.length : Int) + r * a - 1) / (r * a) < 61 := by
    refine Int.ediv_lt_of_lt_mul (by omega) ?_
    have := Int.mul_le_mul_of_nonneg_left (show (1 : Int) ≤ r * a by omega) (show (0 : Int) ≤ 60 by omega)
    rw [show (61 : Int) * (r * a) = 60 * (r * a) + r * a by omega]
    omega
  unfold ptN
  omega
theorem ptV_page {r a c : Int} {xs : List Int} {q : Nat} (h : ptV r a c xs = true) (hq : q < ptN r a c xs) : pgB r a c xs (q : Int) = true := by
  have h1 := ptN_bd h
  unfold ptV at h
  rw [Bool.and_eq_true] at h
  unfold pgB
  rw [h.1, h.2, inB_t (by omega) (by omega)]
  rfl
/-- what the reference's page gives, in the program's words -/
theorem plin_eq {R A C : Nat} {xs : List Int} {q : Nat} (h : pgB R A C xs (q : Int) = true) : plinS R A C xs (q : Int) = pgeF xs C (q * (R * A)) R A ∧ plinB R A C xs (q : Int) = pgeB xs C (q * (R * A)) R A := by
  have e : ((q : Int) * ((R : Int) * (A : Int))).toNat = q * (R * A) := by rw [← Int.natCast_mul, ← Int.natCast_mul, Int.toNat_natCast]
  unfold plinS plinB
  rw [if_pos h, h, e, Int.toNat_natCast, Int.toNat_natCast, Int.toNat_natCast]
  exact ⟨rfl, rfl⟩
end Go.Proofs.YtdgnhplaakjlgaaGreatDoor
