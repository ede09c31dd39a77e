/- Plain facts on the text of a table: its pages, each line with its end, and an empty line between pages. No condition; no program in sight. -/
import Derived.Test.YtdgnhplaakjlgaaGreatDoorPg2P
namespace Go.Proofs.YtdgnhplaakjlgaaGreatDoor
set_option linter.unusedVariables false
open Go.RowKit

/-- lines, each with its end -/
def linT (L : List ByteArray) : List UInt8 := (L.map fun y => y.data.toList ++ [10]).flatten
/-- the first q pages -/
def tbT (f : Nat → List ByteArray) (q : Nat) : List UInt8 := ((List.range q).map fun i => (if 0 < i then [10] else []) ++ linT (f i)).flatten
theorem linT_nil : linT [] = [] := rfl
theorem linT_snoc (L : List ByteArray) (y : ByteArray) : linT (L ++ [y]) = linT L ++ (y.data.toList ++ [10]) := by
  unfold linT; rw [List.map_append, List.flatten_append]; simp
theorem linT_take (L : List ByteArray) (k : Nat) (h : k < L.length) : linT (L.take (k + 1)) = linT (L.take k) ++ ((L.getD k noS).data.toList ++ [10]) := by
  rw [List.take_add_one, List.getElem?_eq_getElem h, Option.toList_some, linT_snoc]
  simp [List.getD, h]
theorem tbT_zero (f : Nat → List ByteArray) : tbT f 0 = [] := rfl
theorem tbT_succ (f : Nat → List ByteArray) (q : Nat) : tbT f (q + 1) = tbT f q ++ ((if 0 < q then [10] else []) ++ linT (f q)) := by
  unfold tbT; rw [List.range_succ, List.map_append, List.flatten_append]; simp
theorem linT_len {L : List ByteArray} {m : Nat} (h : ∀ y ∈ L, y.size ≤ m) : (linT L).length ≤ L.length * (m + 1) := by
  induction L with
  | nil => simp [linT]
  | cons y L ih =>
    have h1 := ih (fun z hz => h z (by simp [hz]))
    have h2 := h y (by simp)
    unfold linT at h1 ⊢
    have e : (y :: L).length * (m + 1) = L.length * (m + 1) + (m + 1) := by rw [List.length_cons, Nat.add_mul]; omega
    rw [List.map_cons, List.flatten_cons, List.length_append, List.length_append, size_data, e]
    simp only [List.length_cons, List.length_nil]
    omega
/-- a page's lines are short and few -/
theorem pgeF_small {xs : List Int} {C s R A : Nat} (hR : R ≤ 20) (hA : A ≤ 6) (hC : C ≤ 12) : (pgeF xs C s R A).length ≤ 20 ∧ ∀ y ∈ pgeF xs C s R A, y.size ≤ 78 := by
  unfold pgeF
  by_cases h : pgeB xs C s R A = true
  · rw [if_pos h]
    refine ⟨by rw [pgLn_len]; unfold pgN; omega, ?_⟩
    intro y hy
    unfold pgLn at hy
    obtain ⟨q, hq, rfl⟩ := List.mem_map.1 hy
    have hq := List.mem_range.1 hq
    unfold pgeB pgOk at h
    have h1 : lnB xs C (s + q) R A = true := List.all_eq_true.1 h q (List.mem_range.2 hq)
    unfold lnB at h1
    have h2 := cellJ_len h1
    have h3 : nCol xs.length (s + q) R A * (C + 1) ≤ 6 * 13 := Nat.mul_le_mul (by have := nCol_le xs.length (s + q) R A; omega) (by omega)
    have h4 : IsS (lnS xs C (s + q) R A) (lnL xs C (s + q) R A) := IsS.mk _
    rw [h4.size]
    unfold lnL
    omega
  · rw [if_neg h]
    exact ⟨by simp, fun y hy => absurd hy (by simp)⟩
theorem plinS_small (r a c : Int) (xs : List Int) (p : Int) : (plinS r a c xs p).length ≤ 20 ∧ ∀ y ∈ plinS r a c xs p, y.size ≤ 78 := by
  unfold plinS
  by_cases h : pgB r a c xs p = true
  · rw [if_pos h]
    obtain ⟨hl, _⟩ := pgB_iff h
    obtain ⟨l1, l2, l3, l4, l5, l6, _⟩ := lay_mul hl
    exact pgeF_small (by omega) (by omega) (by omega)
  · rw [if_neg h]
    exact ⟨by simp, fun y hy => absurd hy (by simp)⟩
/-- the pages of a table -/
def ptN (r a c : Int) (xs : List Int) : Nat := (pnF r a c xs.length).toNat
def ptOk (r a c : Int) (xs : List Int) (q : Nat) : Bool := (List.range q).all fun i => plinB r a c xs (i : Int)
def ptT (r a c : Int) (xs : List Int) (q : Nat) : List UInt8 := tbT (fun i => plinS r a c xs (i : Int)) q
def ptV (r a c : Int) (xs : List Int) : Bool := layB r a c && tabB xs
def ptB (r a c : Int) (xs : List Int) : Bool := ptV r a c xs && ptOk r a c xs (ptN r a c xs)
def ptF (r a c : Int) (xs : List Int) : List UInt8 := if ptB r a c xs = true then ptT r a c xs (ptN r a c xs) else []
theorem ptOk_succ (r a c : Int) (xs : List Int) (q : Nat) : ptOk r a c xs (q + 1) = (ptOk r a c xs q && plinB r a c xs (q : Int)) := by
  unfold ptOk; rw [List.range_succ, List.all_append]; simp
theorem ptOk_false {r a c : Int} {xs : List Int} {q n : Nat} (h : plinB r a c xs (q : Int) = false) (hq : q < n) : ptOk r a c xs n = false := by
  unfold ptOk
  rw [List.all_eq_false]
  exact ⟨q, List.mem_range.2 hq, by simp [h]⟩
theorem ptT_succ (r a c : Int) (xs : List Int) (q : Nat) : ptT r a c xs (q + 1) = ptT r a c xs q ++ ((if 0 < q then [10] else []) ++ linT (plinS r a c xs (q : Int))) := tbT_succ _ _
theorem ptT_len (r a c : Int) (xs : List Int) (q : Nat) : (ptT r a c xs q).length ≤ q * 1581 := by
  induction q with
  | zero => simp [ptT, tbT]
  | succ q ih =>
    rw [ptT_succ, List.length_append, List.length_append]
    obtain ⟨h1, h2⟩ := plinS_small r a c xs (q : Int)
    have h3 := linT_len h2
    have h4 : (plinS r a c xs (q : Int)).length * (78 + 1) ≤ 20 * 79 := Nat.mul_le_mul h1 (Nat.le_refl _)
    have h5 : (if 0 < q then [(10 : UInt8)] else []).length ≤ 1 := by split <;> simp
    omega
theorem ptN_bd {r a c : Int} {xs : List Int} (h : ptV r a c xs = true) : pnF r a c xs.length = (ptN r a c xs : Int) ∧ ptN r a c xs ≤ 60 := by
  unfold ptV at h
  rw [Bool.and_eq_true] at h
  obtain ⟨hl, ht⟩ := h
  obtain ⟨t1, t2, _⟩ := tabB_iff ht
  obtain ⟨l1, l2, l3, l4, l5, l6, l7, l8⟩ := lay_mul hl
  have e : pnF r a c xs.length = ((xs.length : Int) + r * a - 1) / (r * a) := if_pos ⟨hl, by omega, by omega⟩
  have h1 := Int.ediv_nonneg (show (0 : Int) ≤ (xs.length : Int) + r * a - 1 by omega) (show (0 : Int) ≤ r * a by omega)
  have h2 : ((xs.length : Int) + r * a - 1) / (r * a) < 61 := by
    refine Int.ediv_lt_of_lt_mul (by omega) ?_
    have := Int.mul_le_mul_of_nonneg_left (show (1 : Int) ≤ r * a by omega) (show (0 : Int) ≤ 60 by omega)
    rw [show (61 : Int) * (r * a) = 60 * (r * a) + r * a by omega]
    omega
  unfold ptN
  omega
theorem ptV_page {r a c : Int} {xs : List Int} {q : Nat} (h : ptV r a c xs = true) (hq : q < ptN r a c xs) : pgB r a c xs (q : Int) = true := by
  have h1 := ptN_bd h
  unfold ptV at h
  rw [Bool.and_eq_true] at h
  unfold pgB
  rw [h.1, h.2, inB_t (by omega) (by omega)]
  rfl
/-- what the reference's page gives, in the program's words -/
theorem plin_eq {R A C : Nat} {xs : List Int} {q : Nat} (h : pgB R A C xs (q : Int) = true) : plinS R A C xs (q : Int) = pgeF xs C (q * (R * A)) R A ∧ plinB R A C xs (q : Int) = pgeB xs C (q * (R * A)) R A := by
  have e : ((q : Int) * ((R : Int) * (A : Int))).toNat = q * (R * A) := by rw [← Int.natCast_mul, ← Int.natCast_mul, Int.toNat_natCast]
  unfold plinS plinB
  rw [if_pos h, h, e, Int.toNat_natCast, Int.toNat_natCast, Int.toNat_natCast]
  exact ⟨rfl, rfl⟩
end Go.Proofs.YtdgnhplaakjlgaaGreatDoor
