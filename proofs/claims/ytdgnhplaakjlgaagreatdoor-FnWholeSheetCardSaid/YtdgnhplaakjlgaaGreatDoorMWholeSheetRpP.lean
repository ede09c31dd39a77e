/- Lemmas and contracts for WholeSheet (RpP RpP2 RpP3): plain words on memory, contracts of the functions that the law reaches. No condition but what each states. -/
import Derived.Test.YtdgnhplaakjlgaaGreatDoorMWholeSheetPg2P
import Derived.Test.YtdgnhplaakjlgaaGreatDoorMWholeSheetNumPl
import Derived.Lib.TrimByte
namespace Go.Proofs.YtdgnhplaakjlgaaGreatDoor
set_option linter.unusedVariables false
open Go.RowKit

theorem pgN_lt' {n s r k : Nat} (h : k < pgN n s r) : k < r ∧ s + k < n := by unfold pgN at h; omega
def cellNum (L : List UInt8) (C i : Nat) : Option Int := numP (Lib.trimLeftB ((L.drop (i * (C + 1))).take C) 32)
def cellV (L : List UInt8) (C i : Nat) : Int := (cellNum L C i).getD 0
def hasC (L : List UInt8) (C i : Nat) : Bool := decide (i * (C + 1) + C ≤ L.length)
/-- the entries of column i -/
def colV (ys : List ByteArray) (C i : Nat) : List Int := (ys.filter fun y => hasC y.data.toList C i).map fun y => cellV y.data.toList C i
/-- .. of the first a columns -/
def celV (ys : List ByteArray) (C a : Nat) : List Int := ((List.range a).map fun i => colV ys C i).flatten
def rowM (L : List UInt8) (C : Nat) : Nat := (L.length + 1) / (C + 1)
def rowB (L : List UInt8) (C : Nat) : Bool := decide ((L.length + 1) % (C + 1) = 0) && (List.range (rowM L C)).all fun i => (cellNum L C i).isSome
def rowV (L : List UInt8) (C : Nat) : List Int := (List.range (rowM L C)).map fun i => cellV L C i
def rdB (ys : List ByteArray) (C r a : Nat) : Bool := decide (ys.length ≤ r) && ys.all fun y => rowB y.data.toList C && decide (rowM y.data.toList C ≤ a)

theorem colV_take {ys : List ByteArray} {C i q : Nat} (h : q < ys.length) : colV (ys.take (q + 1)) C i = colV (ys.take q) C i ++ (if hasC (ys.getD q noS).data.toList C i = true then [cellV (ys.getD q noS).data.toList C i] else []) := by
  unfold colV
  have e : ys.getD q noS = ys[q] := by simp [List.getD, h]
  rw [List.take_succ_eq_append_getElem h, List.filter_append, List.map_append, e]
  congr 1
  by_cases hb : hasC ys[q].data.toList C i = true <;> simp [hb]
theorem celV_succ (ys : List ByteArray) (C i : Nat) : celV ys C (i + 1) = celV ys C i ++ colV ys C i := by
  unfold celV; rw [List.range_succ, List.map_append, List.flatten_append]; simp
theorem colV_len (ys : List ByteArray) (C i : Nat) : (colV ys C i).length ≤ ys.length := by
  unfold colV; rw [List.length_map]; exact List.length_filter_le _ _
theorem celV_len (ys : List ByteArray) (C a : Nat) : (celV ys C a).length ≤ a * ys.length := by
  induction a with
  | zero => simp [celV]
  | succ a ih =>
    rw [celV_succ, List.length_append, Nat.add_mul]
    have := colV_len ys C a
    omega
/-- in a proper line a column is there where its number is below the line's -/
theorem hasC_row {L : List UInt8} {C i : Nat} (h : rowB L C = true) : hasC L C i = decide (i < rowM L C) := by
  unfold rowB at h
  rw [Bool.and_eq_true] at h
  have h1 := of_decide_eq_true h.1
  unfold hasC rowM
  have h2 := Nat.div_add_mod (L.length + 1) (C + 1)
  rw [h1] at h2
  rw [Bool.eq_iff_iff, decide_eq_true_eq, decide_eq_true_eq]
  generalize (L.length + 1) / (C + 1) = m at h2 ⊢
  rw [Nat.mul_comm] at h2
  constructor
  · intro h3
    by_cases h4 : i < m
    · exact h4
    · have := Nat.mul_le_mul_right (C + 1) (show m ≤ i by omega)
      omega
  · intro h3
    have := Nat.mul_le_mul_right (C + 1) (show i + 1 ≤ m by omega)
    rw [Nat.add_mul] at this
    omega
theorem trim_sp (k : Nat) (l : List UInt8) (h : l.head? ≠ some 32) : Lib.trimLeftB (List.replicate k 32 ++ l) 32 = l := by
  unfold Lib.trimLeftB
  induction k with
  | zero =>
    cases l with
    | nil => rfl
    | cons c l =>
      have hc : ¬ c = 32 := by simpa using h
      simp [hc]
  | succ k ih => rw [List.replicate_succ, List.cons_append, List.dropWhile_cons]; simpa using ih
theorem itoa_head (n : Int) : (Lib.itoa n).head? ≠ some 32 := by
  by_cases h : n < 0
  · rw [itoa_neg h]; simp
  · obtain ⟨k, rfl⟩ : ∃ k : Nat, n = k := ⟨n.toNat, by omega⟩
    rw [itoa_nat]
    cases hd : Lib.decDigits k with
    | nil => simp
    | cons c r =>
      have := (dec_dig0 hd).2.2.1
      intro e
      simp only [List.head?_cons, Option.some.injEq] at e
      rw [e] at this
      exact absurd this (by decide)
theorem ent_num {x : Int} {C : Nat} (h0 : -1000000000 ≤ x) (h1 : x ≤ 1000000000) : numP (Lib.trimLeftB (entL x C) 32) = some x := by
  unfold entL
  rw [trim_sp _ _ (itoa_head x)]
  exact numP_small (by omega) (by omega)
theorem cellJ_size {xs : List Int} {C f r k : Nat} (h : cellB xs C f r k = true) (hk : 0 < k) : (cellJ xs C f r k).length + 1 = k * (C + 1) := by
  induction k with
  | zero => omega
  | succ k ih =>
    rw [cellB_succ, Bool.and_eq_true] at h
    have h2 := entL_len h.2
    have e : (k + 1) * (C + 1) = k * (C + 1) + (C + 1) := by rw [Nat.add_mul]; omega
    by_cases h0 : 0 < k
    · have h1 := ih h.1 h0
      rw [cellJ_succ _ _ _ _ _ h0]
      simp only [List.length_append, List.length_cons, List.length_nil]
      unfold entT
      omega
    · obtain rfl : k = 0 := by omega
      rw [cellJ_one]
      unfold entT
      omega
/-- each cell is found again in the line -/
theorem cellJ_cell {xs : List Int} {C f r k : Nat} (h : cellB xs C f r k = true) : ∀ i, i < k → ((cellJ xs C f r k).drop (i * (C + 1))).take C = entT xs C (f + i * r) := by
  induction k with
  | zero => intro i hi; omega
  | succ k ih =>
    intro i hi
    have h' := h
    rw [cellB_succ, Bool.and_eq_true] at h'
    have h2 : (entT xs C (f + k * r)).length = C := entL_len h'.2
    by_cases h0 : 0 < k
    · have hs := cellJ_size h'.1 h0
      rw [cellJ_succ _ _ _ _ _ h0]
      by_cases hik : i < k
      · have h3 := Nat.mul_le_mul_right (C + 1) (show i + 1 ≤ k by omega)
        rw [Nat.add_mul] at h3
        rw [List.drop_append_of_le_length (by omega), List.take_append_of_le_length (by rw [List.length_drop]; omega)]
        exact ih h'.1 i hik
      · obtain rfl : i = k := by omega
        rw [List.drop_append, List.drop_eq_nil_of_le (by omega), List.nil_append, show i * (C + 1) - (cellJ xs C f r i).length = 1 by omega]
        simp only [List.cons_append, List.nil_append, List.drop_succ_cons, List.drop_zero]
        exact List.take_of_length_le (by omega)
    · obtain rfl : k = 0 := by omega
      obtain rfl : i = 0 := by omega
      rw [cellJ_one, Nat.zero_mul, List.drop_zero]
      exact List.take_of_length_le (by rw [h2]; exact Nat.le_refl _)
/-- the line of a row that fits -/
theorem line_facts {xs : List Int} {C f R A : Nat} (hin : allIn xs 1000000000 = true) (h : lnB xs C f R A = true) (hf : f < xs.length) (hA : 0 < A) :
    (lnL xs C f R A).length + 1 = nCol xs.length f R A * (C + 1) ∧ 0 < nCol xs.length f R A ∧ ∀ i, i < nCol xs.length f R A → cellNum (lnL xs C f R A) C i = some (xs.getD (f + i * R) 0) := by
  have hpos : 0 < nCol xs.length f R A := nCol_lt hA (by omega)
  unfold lnB at h
  refine ⟨cellJ_size h hpos, hpos, fun i hi => ?_⟩
  unfold cellNum lnL
  rw [cellJ_cell h i hi]
  have hb := getD_bd hin (f + i * R)
  exact ent_num hb.1 hb.2
theorem line_row {xs : List Int} {C f R A : Nat} (hin : allIn xs 1000000000 = true) (h : lnB xs C f R A = true) (hf : f < xs.length) (hA : 0 < A) :
    rowB (lnL xs C f R A) C = true ∧ rowM (lnL xs C f R A) C = nCol xs.length f R A := by
  obtain ⟨h1, h2, h3⟩ := line_facts hin h hf hA
  have hm : rowM (lnL xs C f R A) C = nCol xs.length f R A := by
    unfold rowM
    rw [h1]
    exact Nat.mul_div_cancel _ (by omega)
  refine ⟨?_, hm⟩
  unfold rowB
  rw [Bool.and_eq_true, hm]
  refine ⟨decide_eq_true (by rw [h1]; exact Nat.mul_mod_left _ _), ?_⟩
  rw [List.all_eq_true]
  intro i hi
  rw [h3 i (List.mem_range.1 hi)]
  rfl
/-- the page's lines are read without fault -/
theorem page_rd {xs : List Int} {C s R A : Nat} (hin : allIn xs 1000000000 = true) (h : pgeB xs C s R A = true) (hs : s < xs.length) (hA : 0 < A) (hR : 0 < R) :
    rdB (pgeF xs C s R A) C R A = true ∧ 0 < (pgeF xs C s R A).length := by
  have hF : pgeF xs C s R A = pgLn xs C s R A (pgN xs.length s R) := if_pos h
  rw [hF]
  have hn : 0 < pgN xs.length s R ∧ pgN xs.length s R ≤ R := by unfold pgN; omega
  refine ⟨?_, by rw [pgLn_len]; exact hn.1⟩
  unfold rdB
  rw [Bool.and_eq_true]
  refine ⟨decide_eq_true (by rw [pgLn_len]; exact hn.2), ?_⟩
  rw [List.all_eq_true]
  intro y hy
  unfold pgLn at hy
  obtain ⟨q, hq, rfl⟩ := List.mem_map.1 hy
  have hq := List.mem_range.1 hq
  obtain ⟨hq1, hq2⟩ := pgN_lt' hq
  unfold pgeB pgOk at h
  have hb : lnB xs C (s + q) R A = true := List.all_eq_true.1 h q (List.mem_range.2 hq)
  have e : (lnS xs C (s + q) R A).data.toList = lnL xs C (s + q) R A := by unfold lnS; simp
  obtain ⟨g1, g2⟩ := line_row hin hb hq2 hA
  rw [e, g1, g2, Bool.true_and]
  exact decide_eq_true (nCol_le _ _ _ _)
/-- .. and give its entries, column by column -/
theorem page_col {xs : List Int} {C s R A : Nat} (hin : allIn xs 1000000000 = true) (h : pgeB xs C s R A = true) (hs : s < xs.length) (hR : 0 < R) (i : Nat) (hi : i < A) :
    ∀ q, q ≤ pgN xs.length s R → colV (pgLn xs C s R A q) C i = (xs.drop (s + i * R)).take q := by
  intro q
  induction q with
  | zero => intro _; simp [pgLn, colV]
  | succ q ih =>
    intro hq
    obtain ⟨hq1, hq2⟩ := pgN_lt' (show q < pgN xs.length s R by omega)
    unfold pgeB pgOk at h
    have hb : lnB xs C (s + q) R A = true := List.all_eq_true.1 h q (List.mem_range.2 (by omega))
    have e : (lnS xs C (s + q) R A).data.toList = lnL xs C (s + q) R A := by unfold lnS; simp
    obtain ⟨g1, g2⟩ := line_row hin hb hq2 (by omega)
    obtain ⟨_, _, g3⟩ := line_facts hin hb hq2 (by omega)
    rw [pgLn_succ]
    have hap : colV (pgLn xs C s R A q ++ [lnS xs C (s + q) R A]) C i = colV (pgLn xs C s R A q) C i ++ colV [lnS xs C (s + q) R A] C i := by
      unfold colV; rw [List.filter_append, List.map_append]
    rw [hap, ih (by omega)]
    have hc : hasC (lnL xs C (s + q) R A) C i = decide (i < nCol xs.length (s + q) R A) := by rw [hasC_row g1, g2]
    by_cases hlt : i < nCol xs.length (s + q) R A
    · have hl := nCol_in hlt
      have hone : colV [lnS xs C (s + q) R A] C i = [xs.getD (s + q + i * R) 0] := by
        unfold colV
        rw [List.filter_cons, e, hc, if_pos (by rw [decide_eq_true hlt])]
        simp only [List.filter_nil, List.map_cons, List.map_nil, e]
        unfold cellV
        rw [g3 i hlt]
        rfl
      rw [hone, List.take_add_one, List.getElem?_drop, show s + i * R + q = s + q + i * R by omega, List.getElem?_eq_getElem hl]
      simp [List.getD, hl]
    · have hl := nCol_out (n := xs.length) (f := s + q) (r := R) (a := A) (i := i) (by omega) hi
      have hone : colV [lnS xs C (s + q) R A] C i = [] := by
        unfold colV
        rw [List.filter_cons, e, hc, if_neg (by rw [decide_eq_false hlt]; simp)]
        simp
      rw [hone, List.append_nil, List.take_of_length_le (by rw [List.length_drop]; omega), List.take_of_length_le (by rw [List.length_drop]; omega)]
theorem page_vals {xs : List Int} {C s R A : Nat} (hin : allIn xs 1000000000 = true) (h : pgeB xs C s R A = true) (hs : s < xs.length) (hR : 0 < R) :
    celV (pgeF xs C s R A) C A = pgE xs s (R * A) := by
  have hF : pgeF xs C s R A = pgLn xs C s R A (pgN xs.length s R) := if_pos h
  rw [hF]
  have hcol : ∀ i, i < A → colV (pgLn xs C s R A (pgN xs.length s R)) C i = (xs.drop (s + i * R)).take R := by
    intro i hi
    rw [page_col hin h hs hR i hi _ (Nat.le_refl _)]
    unfold pgN
    by_cases hr : R ≤ xs.length - s
    · rw [Nat.min_eq_left hr]
    · rw [List.take_of_length_le (by rw [List.length_drop]; omega), List.take_of_length_le (by rw [List.length_drop]; omega)]
  have hall : ∀ a, a ≤ A → celV (pgLn xs C s R A (pgN xs.length s R)) C a = (xs.drop s).take (a * R) := by
    intro a
    induction a with
    | zero => intro _; simp [celV]
    | succ a ih =>
      intro ha
      rw [celV_succ, ih (by omega), hcol a (by omega), Nat.add_mul, Nat.one_mul, List.take_add, List.drop_drop]
  rw [hall A (Nat.le_refl _)]
  unfold pgE
  rw [Nat.mul_comm A R]
end Go.Proofs.YtdgnhplaakjlgaaGreatDoor

namespace Go.Proofs.YtdgnhplaakjlgaaGreatDoor
set_option linter.unusedVariables false
open Go.RowKit

def rpX (a c : Int) (ys : List ByteArray) : List Int := celV ys c.toNat a.toNat
def rpB (r a c : Int) (ys : List ByteArray) : Bool := plinB r a c (rpX a c ys) 0 && (decide (plinS r a c (rpX a c ys) 0 = ys) && decide (((rpX a c ys).length : Int) ≤ r * a))
def rpV (r a c : Int) (ys : List ByteArray) : List Int := if rpB r a c ys = true then rpX a c ys else []
theorem plin_lay {r a c : Int} {xs : List Int} {p : Int} (h : plinB r a c xs p = true) : pgB r a c xs p = true := by
  unfold plinB at h; rw [Bool.and_eq_true] at h; exact h.1
theorem plin0 {R A C : Nat} {xs : List Int} (h : plinB R A C xs 0 = true) : layB R A C = true ∧ tabB xs = true ∧ pgeB xs C 0 R A = true ∧ plinS R A C xs 0 = pgeF xs C 0 R A := by
  have h1 := plin_lay h
  obtain ⟨hl, ht, _, _⟩ := pgB_iff h1
  obtain ⟨e1, e2⟩ := plin_eq (q := 0) (by simpa using h1)
  rw [Nat.zero_mul] at e1 e2
  refine ⟨hl, ht, ?_, by simpa using e1⟩
  rw [← e2]
  simpa using h
theorem lay_nat {r a c : Int} (h : layB r a c = true) : ∃ R A C : Nat, r = R ∧ a = A ∧ c = C := by
  obtain ⟨l1, l2, l3, l4, l5, l6, _⟩ := lay_mul h
  exact ⟨r.toNat, a.toNat, c.toNat, by omega, by omega, by omega⟩
/-- what is printed is read without fault -/
theorem rp_rd {r a c : Int} {ys : List ByteArray} (h : rpB r a c ys = true) : layB r a c = true ∧ rdB ys c.toNat r.toNat a.toNat = true ∧ 1 ≤ ys.length ∧ (ys.length : Int) ≤ r ∧ plinB r a c (rpX a c ys) 0 = true ∧ plinS r a c (rpX a c ys) 0 = ys ∧ ((rpX a c ys).length : Int) ≤ r * a := by
  unfold rpB at h
  rw [Bool.and_eq_true, Bool.and_eq_true, decide_eq_true_eq, decide_eq_true_eq] at h
  obtain ⟨h1, h2, h3⟩ := h
  have hl := (pgB_iff (plin_lay h1)).1
  obtain ⟨R, A, C, rfl, rfl, rfl⟩ := lay_nat hl
  obtain ⟨l1, l2, l3, l4, l5, l6, _⟩ := lay_mul hl
  obtain ⟨_, ht, hb, hF⟩ := plin0 h1
  obtain ⟨t1, t2, t3⟩ := tabB_iff ht
  obtain ⟨g1, g2⟩ := page_rd t3 hb (by omega) (by omega) (by omega)
  rw [← hF, h2] at g1 g2
  have g3 : ys.length ≤ R := by
    unfold rdB at g1
    rw [Bool.and_eq_true] at g1
    exact of_decide_eq_true g1.1
  exact ⟨hl, by simpa using g1, by omega, by omega, h1, h2, h3⟩
/-- one page is needed just where the entries fit a page -/
theorem rp_pn {r a c : Int} {xs : List Int} (h : plinB r a c xs 0 = true) : pnF r a c xs.length = 1 ↔ (xs.length : Int) ≤ r * a := by
  obtain ⟨hl, ht, _, _⟩ := pgB_iff (plin_lay h)
  obtain ⟨t1, t2, t3⟩ := tabB_iff ht
  obtain ⟨l1, l2, l3, l4, l5, l6, l7, l8⟩ := lay_mul hl
  have e : pnF r a c xs.length = ((xs.length : Int) + r * a - 1) / (r * a) := if_pos ⟨hl, by omega, by omega⟩
  rw [e]
  generalize r * a = M at *
  constructor
  · intro h1
    have h2 : ((xs.length : Int) + M - 1) / M < 2 := by omega
    have h3 := (Int.ediv_lt_iff_lt_mul (show 0 < M by omega)).1 h2
    omega
  · intro h1
    have h2 : 1 ≤ ((xs.length : Int) + M - 1) / M := (Int.le_ediv_iff_mul_le (by omega)).2 (by omega)
    have h3 : ((xs.length : Int) + M - 1) / M < 2 := (Int.ediv_lt_iff_lt_mul (by omega)).2 (by omega)
    omega
theorem rp_no {r a c : Int} {ys : List ByteArray} (h : ¬ (layB r a c = true ∧ rdB ys c.toNat r.toNat a.toNat = true)) : rpB r a c ys = false := by
  cases hb : rpB r a c ys
  · rfl
  · exfalso; apply h; have := rp_rd hb; exact ⟨this.1, this.2.1⟩
theorem rp_out {r a c : Int} {ys : List ByteArray} (h : ¬ (layB r a c = true ∧ 1 ≤ ys.length ∧ (ys.length : Int) ≤ r)) : rpB r a c ys = false := by
  cases hb : rpB r a c ys
  · rfl
  · exfalso; apply h; have := rp_rd hb; exact ⟨this.1, this.2.2.1, this.2.2.2.1⟩
end Go.Proofs.YtdgnhplaakjlgaaGreatDoor

namespace Go.Proofs.YtdgnhplaakjlgaaGreatDoor
set_option linter.unusedVariables false
open Go.RowKit

theorem nCol_congr {n n' f f' r a : Nat} (h : ∀ i, i < a → (f + i * r < n ↔ f' + i * r < n')) : nCol n f r a = nCol n' f' r a := by
  induction a with
  | zero => rfl
  | succ a ih =>
    have h1 := h a (by omega)
    have h2 := ih (fun i hi => h i (by omega))
    unfold nCol
    by_cases hq : f + a * r < n
    · rw [if_pos hq, if_pos (h1.1 hq)]
    · rw [if_neg hq, if_neg (fun q => hq (h1.2 q)), h2]
theorem pgE_len (xs : List Int) (s m : Nat) : (pgE xs s m).length = min m (xs.length - s) := by simp [pgE]
theorem pgE_get {xs : List Int} {s m k : Nat} (h : k < (pgE xs s m).length) : (pgE xs s m).getD k 0 = xs.getD (s + k) 0 := by
  rw [pgE_len] at h
  unfold pgE
  have h1 : k < m := by omega
  have h2 : s + k < xs.length := by omega
  simp [List.getD, h1, h2]
theorem pgE_all {xs : List Int} {s m : Nat} (h : allIn xs 1000000000 = true) : allIn (pgE xs s m) 1000000000 = true := by
  unfold allIn at h ⊢
  rw [List.all_eq_true] at h ⊢
  intro x hx
  unfold pgE at hx
  exact h x (List.mem_of_mem_drop (List.mem_of_mem_take hx))
theorem place_lt2 {k j R A : Nat} (hk : k < R) (hj : j < A) : k + j * R < R * A := by
  have := Nat.mul_le_mul_right R (show j + 1 ≤ A by omega)
  rw [Nat.add_mul] at this
  rw [Nat.mul_comm R A]
  omega
/-- the line of row q is the same -/
theorem line_again {xs : List Int} {C s R A q : Nat} (hq : q < R) : nCol (pgE xs s (R * A)).length (0 + q) R A = nCol xs.length (s + q) R A ∧ lnB (pgE xs s (R * A)) C (0 + q) R A = lnB xs C (s + q) R A ∧ lnL (pgE xs s (R * A)) C (0 + q) R A = lnL xs C (s + q) R A := by
  have hn : nCol (pgE xs s (R * A)).length (0 + q) R A = nCol xs.length (s + q) R A := by
    refine nCol_congr (fun i hi => ?_)
    have h1 := place_lt2 hq hi
    rw [pgE_len]
    omega
  have hg : ∀ i, i < nCol xs.length (s + q) R A → (pgE xs s (R * A)).getD (0 + q + i * R) 0 = xs.getD (s + q + i * R) 0 := by
    intro i hi
    rw [← hn] at hi
    have h1 := nCol_in hi
    rw [pgE_get h1]
    congr 1
    omega
  refine ⟨hn, ?_, ?_⟩
  · unfold lnB cellB
    rw [hn]
    have : ∀ c, c ≤ nCol xs.length (s + q) R A → ((List.range c).all fun j => entK (pgE xs s (R * A)) C (0 + q + j * R)) = ((List.range c).all fun j => entK xs C (s + q + j * R)) := by
      intro c
      induction c with
      | zero => intro _; rfl
      | succ c ih =>
        intro hc
        rw [List.range_succ, List.all_append, List.all_append, ih (by omega)]
        congr 1
        simp only [List.all_cons, List.all_nil, Bool.and_true]
        unfold entK
        rw [hg c (by omega)]
    exact this _ (Nat.le_refl _)
  · unfold lnL cellJ cellsT
    rw [hn]
    congr 1
    apply List.map_congr_left
    intro i hi
    unfold entT
    rw [hg i (List.mem_range.1 hi)]
theorem page_again {xs : List Int} {C s R A : Nat} (hA : 0 < A) : pgeB (pgE xs s (R * A)) C 0 R A = pgeB xs C s R A ∧ pgeF (pgE xs s (R * A)) C 0 R A = pgeF xs C s R A := by
  have hn : pgN (pgE xs s (R * A)).length 0 R = pgN xs.length s R := by
    unfold pgN
    rw [pgE_len]
    have : R ≤ R * A := Nat.le_mul_of_pos_right _ hA
    omega
  have hk : pgN xs.length s R ≤ R := by unfold pgN; omega
  have hB : pgeB (pgE xs s (R * A)) C 0 R A = pgeB xs C s R A := by
    unfold pgeB pgOk
    rw [hn]
    have : ∀ c, c ≤ R → ((List.range c).all fun i => lnB (pgE xs s (R * A)) C (0 + i) R A) = ((List.range c).all fun i => lnB xs C (s + i) R A) := by
      intro c
      induction c with
      | zero => intro _; rfl
      | succ c ih =>
        intro hc
        rw [List.range_succ, List.all_append, List.all_append, ih (by omega)]
        congr 1
        simp only [List.all_cons, List.all_nil, Bool.and_true]
        exact (line_again (show c < R by omega)).2.1
    exact this _ hk
  refine ⟨hB, ?_⟩
  unfold pgeF
  rw [hB]
  by_cases h : pgeB xs C s R A = true
  · rw [if_pos h, if_pos h]
    unfold pgLn
    rw [hn]
    apply List.map_congr_left
    intro i hi
    unfold lnS
    rw [(line_again (show i < R by have := List.mem_range.1 hi; omega)).2.2]
  · rw [if_neg h, if_neg h]
/-- a page that is printed is read -/
theorem page_read {r a c : Int} {xs : List Int} {p : Int} (h : plinB r a c xs p = true) :
    rpB r a c (plinS r a c xs p) = true ∧ rpX a c (plinS r a c xs p) = pgE xs (p * (r * a)).toNat (r * a).toNat := by
  have h1 := plin_lay h
  obtain ⟨hl, ht, p0, p1⟩ := pgB_iff h1
  obtain ⟨R, A, C, rfl, rfl, rfl⟩ := lay_nat hl
  obtain ⟨l1, l2, l3, l4, l5, l6, l7, l8⟩ := lay_mul hl
  obtain ⟨t1, t2, t3⟩ := tabB_iff ht
  obtain ⟨q, rfl⟩ : ∃ q : Nat, p = q := ⟨p.toNat, by omega⟩
  obtain ⟨e1, e2⟩ := plin_eq h1
  rw [e2] at h
  have e3 : ((q : Int) * ((R : Int) * (A : Int))).toNat = q * (R * A) := by rw [← Int.natCast_mul, ← Int.natCast_mul, Int.toNat_natCast]
  have e4 : ((R : Int) * (A : Int)).toNat = R * A := by rw [← Int.natCast_mul, Int.toNat_natCast]
  have hs : q * (R * A) < xs.length := by
    have : (q : Int) * ((R : Int) * (A : Int)) = ((q * (R * A) : Nat) : Int) := by simp
    omega
  have hM1 : 1 ≤ R * A := by have : (R : Int) * (A : Int) = ((R * A : Nat) : Int) := (by simp); omega
  generalize q * (R * A) = s at *
  rw [e1, e3, e4]
  have hX : rpX A C (pgeF xs C s R A) = pgE xs s (R * A) := by
    unfold rpX
    rw [Int.toNat_natCast, Int.toNat_natCast]
    exact page_vals t3 h hs (by omega)
  have hXl := pgE_len xs s (R * A)
  obtain ⟨g1, g2⟩ := page_again (xs := xs) (C := C) (s := s) (R := R) (A := A) (by omega)
  have htab : tabB (pgE xs s (R * A)) = true := by
    unfold tabB
    rw [inB_t (by omega) (by omega), pgE_all t3]
    rfl
  have hpn : 1 ≤ pnF R A C (pgE xs s (R * A)).length := by
    have e : pnF R A C (pgE xs s (R * A)).length = (((pgE xs s (R * A)).length : Int) + (R : Int) * A - 1) / ((R : Int) * A) := if_pos ⟨hl, by omega, by omega⟩
    rw [e]
    exact (Int.le_ediv_iff_mul_le (by omega)).2 (by omega)
  have hpg : pgB R A C (pgE xs s (R * A)) ((0 : Nat) : Int) = true := by
    unfold pgB
    rw [hl, htab, inB_t (by omega) (by omega)]
    rfl
  obtain ⟨f1, f2⟩ := plin_eq hpg
  rw [Nat.zero_mul, g2] at f1
  rw [Nat.zero_mul, g1, h] at f2
  refine ⟨?_, hX⟩
  unfold rpB
  rw [hX]
  have f1' : plinS R A C (pgE xs s (R * A)) 0 = pgeF xs C s R A := f1
  have f2' : plinB R A C (pgE xs s (R * A)) 0 = true := f2
  rw [f1', f2']
  simp only [Bool.true_and, decide_true]
  exact decide_eq_true (by have : (R : Int) * (A : Int) = ((R * A : Nat) : Int) := (by simp); omega)
theorem csum_add (xs : List Int) (f m : Nat) : ∀ k, csum xs f (m + k) = csum xs f m + csum xs (f + m) k := by
  intro k
  induction k with
  | zero => simp [csum]
  | succ k ih => rw [← Nat.add_assoc, csum, ih, csum, Nat.add_assoc f m k]; omega
def sumL (L : List Int) (k : Nat) : Int := csum L 0 k
theorem sum_psL (xs : List Int) (s r : Nat) : ∀ a, csum (psL xs s r a) 0 a = csum xs s (a * r) := by
  have hg : ∀ a i, i < a → (psL xs s r a).getD i 0 = csum xs (s + i * r) r := by
    intro a i hi
    simp [psL, List.getD, hi]
  have hs : ∀ a k, k ≤ a → csum (psL xs s r a) 0 k = csum xs s (k * r) := by
    intro a k
    induction k with
    | zero => intro _; simp [csum]
    | succ k ih =>
      intro hk
      rw [csum, ih (by omega), Nat.zero_add, hg a k (by omega), Nat.add_mul, Nat.one_mul, csum_add]
  exact fun a => hs a a (Nat.le_refl _)
end Go.Proofs.YtdgnhplaakjlgaaGreatDoor
