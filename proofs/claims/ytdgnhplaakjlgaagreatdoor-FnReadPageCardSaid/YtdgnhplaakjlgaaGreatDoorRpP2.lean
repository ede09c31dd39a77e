/- Plain facts: a page that is read and printed again. No condition; no program in sight. -/
import Derived.Test.YtdgnhplaakjlgaaGreatDoorRpP
namespace Go.Proofs.YtdgnhplaakjlgaaGreatDoor
set_option linter.unusedVariables false
open Go.RowKit

def rpX (a c : Int) (ys : List ByteArray) : List Int := celV ys c.toNat a.toNat
def rpB (r a c : Int) (ys : List ByteArray) : Bool := plinB r a c (rpX a c ys) 0 && (decide (plinS r a c (rpX a c ys) 0 = ys) && decide (((rpX a c ys).length : Int) ≤ r * a))
def rpV (r a c : Int) (ys : List ByteArray) : List Int := if rpB r a c ys = true then rpX a c ys else []
theorem plin_lay {r a c : Int} {xs : List Int} {p : Int} (h : plinB r a c xs p = true) : pgB r a c xs p = true := by
  unfold plinB at h; rw [Bool.and_eq_true] at h; exact h.1
theorem plin0 {R A C : Nat} {xs : List Int} (h : plinB R A C xs 0 = true) : layB R A C = true ∧ tabB xs = true ∧ pgeB xs C 0 R A = true ∧ plinS R A C xs 0 = pgeF xs C 0 R A := by
  have h1 := plin_lay h
  obtain ⟨hl, ht, _, _⟩ := pgB_iff h1
  obtain ⟨e1, e2⟩ := plin_eq (q := 0) (by simpa using h1)
  rw [Nat.zero_mul] at e1 e2
  refine ⟨hl, ht, ?_, by simpa using e1⟩
  rw [← e2]
  simpa using h
theorem lay_nat {r a c : Int} (h : layB r a c = true) : ∃ R A C : Nat, r = R ∧ a = A ∧ c = C := by
  obtain ⟨l1, l2, l3, l4, l5, l6, _⟩ := lay_mul h
  exact ⟨r.toNat, a.toNat, c.toNat, by omega, by omega, by omega⟩
/-- what is printed is read without fault -/
theorem rp_rd {r a c : Int} {ys : List ByteArray} (h : rpB r a c ys = true) : layB r a c = true ∧ rdB ys c.toNat r.toNat a.toNat = true ∧ 1 ≤ ys.length ∧ (ys.length : Int) ≤ r ∧ plinB r a c (rpX a c ys) 0 = true ∧ plinS r a c (rpX a c ys) 0 = ys ∧ ((rpX a c ys).length : Int) ≤ r * a := by
  unfold rpB at h
  rw [Bool.and_eq_true, Bool.and_eq_true, decide_eq_true_eq, decide_eq_true_eq] at h
  obtain ⟨h1, h2, h3⟩ := h
  have hl := (pgB_iff (plin_lay h1)).1
  obtain ⟨R, A, C, rfl, rfl, rfl⟩ := lay_nat hl
  obtain ⟨l1, l2, l3, l4, l5, l6, _⟩ := lay_mul hl
  obtain ⟨_, ht, hb, hF⟩ := plin0 h1
  obtain ⟨t1, t2, t3⟩ := tabB_iff ht
  obtain ⟨g1, g2⟩ := page_rd t3 hb (by omega) (by omega) (by omega)
  rw [← hF, h2] at g1 g2
  have g3 : ys.length ≤ R := by
    unfold rdB at g1
    rw [Bool.and_eq_true] at g1
    exact of_decide_eq_true g1.1
  exact ⟨hl, by simpa using g1, by omega, by omega, h1, h2, h3⟩
/-- one page is needed just where the entries fit a page -/
theorem rp_pn {r a c : Int} {xs : List Int} (h : plinB r a c xs 0 = true) : pnF r a c xs.length = 1 ↔ (xs.length : Int) ≤ r * a := by
  obtain ⟨hl, ht, _, _⟩ := pgB_iff (plin_lay h)
  obtain ⟨t1, t2, t3⟩ := tabB_iff ht
  obtain ⟨l1, l2, l3, l4, l5, l6, l7, l8⟩ := lay_mul hl
  have e : pnF r a c xs.length = ((xs.length : Int) + r * a - 1) / (r * a) := if_pos ⟨hl, by omega, by omega⟩
  rw [e]
  generalize r * a = M at *
  constructor
  · intro h1
    have h2 : ((xs.length : Int) + M - 1) / M < 2 := by omega
    have h3 := (Int.ediv_lt_iff_lt_mul (show 0 < M by omega)).1 h2
    omega
  · intro h1
    have h2 : 1 ≤ ((xs.length : Int) + M - 1) / M := (Int.le_ediv_iff_mul_le (by omega)).2 (by omega)
    have h3 : ((xs.length : Int) + M - 1) / M < 2 := (Int.ediv_lt_iff_lt_mul (by omega)).2 (by omega)
    omega
theorem rp_no {r a c : Int} {ys : List ByteArray} (h : ¬ (layB r a c = true ∧ rdB ys c.toNat r.toNat a.toNat = true)) : rpB r a c ys = false := by
  cases hb : rpB r a c ys
  · rfl
  · exfalso; apply h; have := rp_rd hb; exact ⟨this.1, this.2.1⟩
theorem rp_out {r a c : Int} {ys : List ByteArray} (h : ¬ (layB r a c = true ∧ 1 ≤ ys.length ∧ (ys.length : Int) ≤ r)) : rpB r a c ys = false := by
  cases hb : rpB r a c ys
  · rfl
  · exfalso; apply h; have := rp_rd hb; exact ⟨this.1, this.2.2.1, this.2.2.2.1⟩
end Go.Proofs.YtdgnhplaakjlgaaGreatDoor
