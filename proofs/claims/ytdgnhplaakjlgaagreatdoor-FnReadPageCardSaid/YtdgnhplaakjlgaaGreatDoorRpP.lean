/- Plain facts: the entries of the lines of a page. No condition; no program in sight. -/
import Derived.Test.YtdgnhplaakjlgaaGreatDoorPtP
import Derived.Test.YtdgnhplaakjlgaaGreatDoorNumPl
import Derived.Lib.TrimByte
namespace Go.Proofs.YtdgnhplaakjlgaaGreatDoor
set_option linter.unusedVariables false
open Go.RowKit

theorem pgN_lt' {n s r k : Nat} (h : k < pgN n s r) : k < r ∧ s + k < n := by unfold pgN at h; omega
def cellNum (L : List UInt8) (C i : Nat) : Option Int := numP (Lib.trimLeftB ((L.drop (i * (C + 1))).take C) 32)
def cellV (L : List UInt8) (C i : Nat) : Int := (cellNum L C i).getD 0
def hasC (L : List UInt8) (C i : Nat) : Bool := decide (i * (C + 1) + C ≤ L.length)
/-- the entries of column i -/
def colV (ys : List ByteArray) (C i : Nat) : List Int := (ys.filter fun y => hasC y.data.toList C i).map fun y => cellV y.data.toList C i
/-- .. of the first a columns -/
def celV (ys : List ByteArray) (C a : Nat) : List Int := ((List.range a).map fun i => colV ys C i).flatten
def rowM (L : List UInt8) (C : Nat) : Nat := (L.length + 1) / (C + 1)
def rowB (L : List UInt8) (C : Nat) : Bool := decide ((L.length + 1) % (C + 1) = 0) && (List.range (rowM L C)).all fun i => (cellNum L C i).isSome
def rowV (L : List UInt8) (C : Nat) : List Int := (List.range (rowM L C)).map fun i => cellV L C i
def rdB (ys : List ByteArray) (C r a : Nat) : Bool := decide (ys.length ≤ r) && ys.all fun y => rowB y.data.toList C && decide (rowM y.data.toList C ≤ a)

theorem colV_take {ys : List ByteArray} {C i q : Nat} (h : q < ys.length) : colV (ys.take (q + 1)) C i = colV (ys.take q) C i ++ (if hasC (ys.getD q noS).data.toList C i = true then [cellV (ys.getD q noS).data.toList C i] else []) := by
  unfold colV
  have e : ys.getD q noS = ys[q] := by simp [List.getD, h]
  rw [List.take_succ_eq_append_getElem h, List.filter_append, List.map_append, e]
  congr 1
  by_cases hb : hasC ys[q].data.toList C i = true <;> simp [hb]
theorem celV_succ (ys : List ByteArray) (C i : Nat) : celV ys C (i + 1) = celV ys C i ++ colV ys C i := by
  unfold celV; rw [List.range_succ, List.map_append, List.flatten_append]; simp
theorem colV_len (ys : List ByteArray) (C i : Nat) : (colV ys C i).length ≤ ys.length := by
  unfold colV; rw [List.length_map]; exact List.length_filter_le _ _
theorem celV_len (ys : List ByteArray) (C a : Nat) : (celV ys C a).length ≤ a * ys.length := by
  induction a with
  | zero => simp [celV]
  | succ a ih =>
    rw [celV_succ, List.length_append, Nat.add_mul]
    have := colV_len ys C a
    omega
/-- in a proper line a column is there where its number is below the line's -/
theorem hasC_row {L : List UInt8} {C i : Nat} (h : rowB L C = true) : hasC L C i = decide (i < rowM L C) := by
  unfold rowB at h
  rw [Bool.and_eq_true] at h
  have h1 := of_decide_eq_true h.1
  unfold hasC rowM
  have h2 := Nat.div_add_mod (L.length + 1) (C + 1)
  rw [h1] at h2
  rw [Bool.eq_iff_iff, decide_eq_true_eq, decide_eq_true_eq]
  generalize (L.length + 1) / (C + 1) = m at h2 ⊢
  rw [Nat.mul_comm] at h2
  constructor
  · intro h3
    by_cases h4 : i < m
    · exact h4
    · have := Nat.mul_le_mul_right (C + 1) (show m ≤ i by omega)
      omega
  · intro h3
    have := Nat.mul_le_mul_right (C + 1) (show i + 1 ≤ m by omega)
    rw [Nat.add_mul] at this
    omega
theorem trim_sp (k : Nat) (l : List UInt8) (h : l.head? ≠ some 32) : Lib.trimLeftB (List.replicate k 32 ++ l) 32 = l := by
  unfold Lib.trimLeftB
  induction k with
  | zero =>
    cases l with
    | nil => rfl
    | cons c l =>
      have hc : ¬ c = 32 := by simpa using h
      simp [hc]
  | succ k ih => rw [List.replicate_succ, List.cons_append, List.dropWhile_cons]; simpa using ih
theorem itoa_head (n : Int) : (Lib.itoa n).head? ≠ some 32 := by
  by_cases h : n < 0
  · rw [itoa_neg h]; simp
  · obtain ⟨k, rfl⟩ : ∃ k : Nat, n = k := ⟨n.toNat, by omega⟩
    rw [itoa_nat]
    cases hd : Lib.decDigits k with
    | nil => simp
    | cons c r =>
      have := (dec_dig0 hd).2.2.1
      intro e
      simp only [List.head?_cons, Option.some.injEq] at e
      rw [e] at this
      exact absurd this (by decide)
theorem ent_num {x : Int} {C : Nat} (h0 : -1000000000 ≤ x) (h1 : x ≤ 1000000000) : numP (Lib.trimLeftB (entL x C) 32) = some x := by
  unfold entL
  rw [trim_sp _ _ (itoa_head x)]
  exact numP_small (by omega) (by omega)
theorem cellJ_size {xs : List Int} {C f r k : Nat} (h : cellB xs C f r k = true) (hk : 0 < k) : (cellJ xs C f r k).length + 1 = k * (C + 1) := by
  induction k with
  | zero => omega
  | succ k ih =>
    rw [cellB_succ, Bool.and_eq_true] at h
    have h2 := entL_len h.2
    have e : (k + 1) * (C + 1) = k * (C + 1) + (C + 1) := by rw [Nat.add_mul]; omega
    by_cases h0 : 0 < k
    · have h1 := ih h.1 h0
      rw [cellJ_succ _ _ _ _ _ h0]
      simp only [List.length_append, List.length_cons, List.length_nil]
      unfold entT
      omega
    · obtain rfl : k = 0 := by omega
      rw [cellJ_one]
      unfold entT
      omega
/-- each cell is found again in the line -/
theorem cellJ_cell {xs : List Int} {C f r k : Nat} (h : cellB xs C f r k = true) : ∀ i, i < k → ((cellJ xs C f r k).drop (i * (C + 1))).take C = entT xs C (f + i * r) := by
  induction k with
  | zero => intro i hi; omega
  | succ k ih =>
    intro i hi
    have h' := h
    rw [cellB_succ, Bool.and_eq_true] at h'
    have h2 : (entT xs C (f + k * r)).length = C := entL_len h'.2
    by_cases h0 : 0 < k
    · have hs := cellJ_size h'.1 h0
      rw [cellJ_succ _ _ _ _ _ h0]
      by_cases hik : i < k
      · have h3 := Nat.mul_le_mul_right (C + 1) (show i + 1 ≤ k by omega)
        rw [Nat.add_mul] at h3
        rw [List.drop_append_of_le_length (by omega), List.take_append_of_le_length (by rw [List.length_drop]; omega)]
        exact ih h'.1 i hik
      · obtain rfl : i = k := by omega
        rw [List.drop_append, List.drop_eq_nil_of_le (by omega), List.nil_append, show i * (C + 1) - (cellJ xs C f r i).length = 1 by omega]
        simp only [List.cons_append, List.nil_append, List.drop_succ_cons, List.drop_zero]
        exact List.take_of_length_le (by omega)
    · obtain rfl : k = 0 := by omega
      obtain rfl : i = 0 := by omega
      rw [cellJ_one, Nat.zero_mul, List.drop_zero]
      exact List.take_of_length_le (by rw [h2]; exact Nat.le_refl _)
/-- the line of a row that fits -/
theorem line_facts {xs : List Int} {C f R A : Nat} (hin : allIn xs 1000000000 = true) (h : lnB xs C f R A = true) (hf : f < xs.length) (hA : 0 < A) :
    (lnL xs C f R A).length + 1 = nCol xs.length f R A * (C + 1) ∧ 0 < nCol xs.length f R A ∧ ∀ i, i < nCol xs.length f R A → cellNum (lnL xs C f R A) C i = some (xs.getD (f + i * R) 0) := by
  have hpos : 0 < nCol xs.length f R A := nCol_lt hA (by omega)
  unfold lnB at h
  refine ⟨cellJ_size h hpos, hpos, fun i hi => ?_⟩
  unfold cellNum lnL
  rw [cellJ_cell h i hi]
  have hb := getD_bd hin (f + i * R)
  exact ent_num hb.1 hb.2
theorem line_row {xs : List Int} {C f R A : Nat} (hin : allIn xs 1000000000 = true) (h : lnB xs C f R A = true) (hf : f < xs.length) (hA : 0 < A) :
    rowB (lnL xs C f R A) C = true ∧ rowM (lnL xs C f R A) C = nCol xs.length f R A := by
  obtain ⟨h1, h2, h3⟩ := line_facts hin h hf hA
  have hm : rowM (lnL xs C f R A) C = nCol xs.length f R A := by
    unfold rowM
    rw [h1]
    exact Nat.mul_div_cancel _ (by omega)
  refine ⟨?_, hm⟩
  unfold rowB
  rw [Bool.and_eq_true, hm]
  refine ⟨decide_eq_true (by rw [h1]; exact Nat.mul_mod_left _ _), ?_⟩
  rw [List.all_eq_true]
  intro i hi
  rw [h3 i (List.mem_range.1 hi)]
  rfl
/-- the page's lines are read without fault -/
theorem page_rd {xs : List Int} {C s R A : Nat} (hin : allIn xs 1000000000 = true) (h : pgeB xs C s R A = true) (hs : s < xs.length) (hA : 0 < A) (hR : 0 < R) :
    rdB (pgeF xs C s R A) C R A = true ∧ 0 < (pgeF xs C s R A).length := by
  have hF : pgeF xs C s R A = pgLn xs C s R A (pgN xs.length s R) := if_pos h
  rw [hF]
  have hn : 0 < pgN xs.length s R ∧ pgN xs.length s R ≤ R := by unfold pgN; omega
  refine ⟨?_, by rw [pgLn_len]; exact hn.1⟩
  unfold rdB
  rw [Bool.and_eq_true]
  refine ⟨decide_eq_true (by rw [pgLn_len]; exact hn.2), ?_⟩
  rw [List.all_eq_true]
  intro y hy
  unfold pgLn at hy
  obtain ⟨q, hq, rfl⟩ := List.mem_map.1 hy
  have hq := List.mem_range.1 hq
  obtain ⟨hq1, hq2⟩ := pgN_lt' hq
  unfold pgeB pgOk at h
  have hb : lnB xs C (s + q) R A = true := List.all_eq_true.1 h q (List.mem_range.2 hq)
  have e : (lnS xs C (s + q) R A).data.toList = lnL xs C (s + q) R A := by unfold lnS; simp
  obtain ⟨g1, g2⟩ := line_row hin hb hq2 hA
  rw [e, g1, g2, Bool.true_and]
  exact decide_eq_true (nCol_le _ _ _ _)
/-- .. and give its entries, column by column -/
theorem page_col {xs : List Int} {C s R A : Nat} (hin : allIn xs 1000000000 = true) (h : pgeB xs C s R A = true) (hs : s < xs.length) (hR : 0 < R) (i : Nat) (hi : i < A) :
    ∀ q, q ≤ pgN xs.length s R → colV (pgLn xs C s R A q) C i = (xs.drop (s + i * R)).take q := by
  intro q
  induction q with
  | zero => intro _; simp [pgLn, colV]
  | succ q ih =>
    intro hq
    obtain ⟨hq1, hq2⟩ := pgN_lt' (show q < pgN xs.length s R by omega)
    unfold pgeB pgOk at h
    have hb : lnB xs C (s + q) R A = true := List.all_eq_true.1 h q (List.mem_range.2 (by omega))
    have e : (lnS xs C (s + q) R A).data.toList = lnL xs C (s + q) R A := by unfold lnS; simp
    obtain ⟨g1, g2⟩ := line_row hin hb hq2 (by omega)
    obtain ⟨_, _, g3⟩ := line_facts hin hb hq2 (by omega)
    rw [pgLn_succ]
    have hap : colV (pgLn xs C s R A q ++ [lnS xs C (s + q) R A]) C i = colV (pgLn xs C s R A q) C i ++ colV [lnS xs C (s + q) R A] C i := by
      unfold colV; rw [List.filter_append, List.map_append]
    rw [hap, ih (by omega)]
    have hc : hasC (lnL xs C (s + q) R A) C i = decide (i < nCol xs.length (s + q) R A) := by rw [hasC_row g1, g2]
    by_cases hlt : i < nCol xs.length (s + q) R A
    · have hl := nCol_in hlt
      have hone : colV [lnS xs C (s + q) R A] C i = [xs.getD (s + q + i * R) 0] := by
        unfold colV
        rw [List.filter_cons, e, hc, if_pos (by rw [decide_eq_true hlt])]
        simp only [List.filter_nil, List.map_cons, List.map_nil, e]
        unfold cellV
        rw [g3 i hlt]
        rfl
      rw [hone, List.take_add_one, List.getElem?_drop, show s + i * R + q = s + q + i * R by omega, List.getElem?_eq_getElem hl]
      simp [List.getD, hl]
    · have hl := nCol_out (n := xs.length) (f := s + q) (r := R) (a := A) (i := i) (by omega) hi
      have hone : colV [lnS xs C (s + q) R A] C i = [] := by
        unfold colV
        rw [List.filter_cons, e, hc, if_neg (by rw [decide_eq_false hlt]; simp)]
        simp
      rw [hone, List.append_nil, List.take_of_length_le (by rw [List.length_drop]; omega), List.take_of_length_le (by rw [List.length_drop]; omega)]
theorem page_vals {xs : List Int} {C s R A : Nat} (hin : allIn xs 1000000000 = true) (h : pgeB xs C s R A = true) (hs : s < xs.length) (hR : 0 < R) :
    celV (pgeF xs C s R A) C A = pgE xs s (R * A) := by
  have hF : pgeF xs C s R A = pgLn xs C s R A (pgN xs.length s R) := if_pos h
  rw [hF]
  have hcol : ∀ i, i < A → colV (pgLn xs C s R A (pgN xs.length s R)) C i = (xs.drop (s + i * R)).take R := by
    intro i hi
    rw [page_col hin h hs hR i hi _ (Nat.le_refl _)]
    unfold pgN
    by_cases hr : R ≤ xs.length - s
    · rw [Nat.min_eq_left hr]
    · rw [List.take_of_length_le (by rw [List.length_drop]; omega), List.take_of_length_le (by rw [List.length_drop]; omega)]
  have hall : ∀ a, a ≤ A → celV (pgLn xs C s R A (pgN xs.length s R)) C a = (xs.drop s).take (a * R) := by
    intro a
    induction a with
    | zero => intro _; simp [celV]
    | succ a ih =>
      intro ha
      rw [celV_succ, ih (by omega), hcol a (by omega), Nat.add_mul, Nat.one_mul, List.take_add, List.drop_drop]
  rw [hall A (Nat.le_refl _)]
  unfold pgE
  rw [Nat.mul_comm A R]
end Go.Proofs.YtdgnhplaakjlgaaGreatDoor
