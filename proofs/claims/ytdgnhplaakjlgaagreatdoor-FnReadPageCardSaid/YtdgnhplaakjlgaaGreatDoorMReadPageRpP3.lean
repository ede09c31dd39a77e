/- Lemmas and contracts for ReadPage (RpP3 Box3): plain words on memory, contracts of the functions that the law reaches. No condition but what each states. -/
import Derived.Test.YtdgnhplaakjlgaaGreatDoorRpP2
import Derived.Test.YtdgnhplaakjlgaaGreatDoorPsum2
import Derived.Test.YtdgnhplaakjlgaaGreatDoorRows1
namespace Go.Proofs.YtdgnhplaakjlgaaGreatDoor
set_option linter.unusedVariables false
open Go.RowKit

theorem nCol_congr {n n' f f' r a : Nat} (h : ∀ i, i < a → (f + i * r < n ↔ f' + i * r < n')) : nCol n f r a = nCol n' f' r a := by
  induction a with
  | zero => rfl
  | succ a ih =>
    have h1 := h a (by omega)
    have h2 := ih (fun i hi => h i (by omega))
    unfold nCol
    by_cases hq : f + a * r < n
    · rw [if_pos hq, if_pos (h1.1 hq)]
    · rw [if_neg hq, if_neg (fun q => hq (h1.2 q)), h2]
theorem pgE_len (xs : List Int) (s m : Nat) : (pgE xs s m).length = min m (xs.length - s) := by simp [pgE]
theorem pgE_get {xs : List Int} {s m k : Nat} (h : k < (pgE xs s m).length) : (pgE xs s m).getD k 0 = xs.getD (s + k) 0 := by
  rw [pgE_len] at h
  unfold pgE
  have h1 : k < m := by omega
  have h2 : s + k < xs.length := by omega
  simp [List.getD, h1, h2]
theorem pgE_all {xs : List Int} {s m : Nat} (h : allIn xs 1000000000 = true) : allIn (pgE xs s m) 1000000000 = true := by
  unfold allIn at h ⊢
  rw [List.all_eq_true] at h ⊢
  intro x hx
  unfold pgE at hx
  exact h x (List.mem_of_mem_drop (List.mem_of_mem_take hx))
theorem place_lt2 {k j R A : Nat} (hk : k < R) (hj : j < A) : k + j * R < R * A := by
  have := Nat.mul_le_mul_right R (show j + 1 ≤ A by omega)
  rw [Nat.add_mul] at this
  rw [Nat.mul_comm R A]
  omega
/-- the line of row q is the same -/
theorem line_again {xs : List Int} {C s R A q : Nat} (hq : q < R) : nCol (pgE xs s (R * A)).length (0 + q) R A = nCol xs.length (s + q) R A ∧ lnB (pgE xs s (R * A)) C (0 + q) R A = lnB xs C (s + q) R A ∧ lnL (pgE xs s (R * A)) C (0 + q) R A = lnL xs C (s + q) R A := by
  have hn : nCol (pgE xs s (R * A)).length (0 + q) R A = nCol xs.length (s + q) R A := by
    refine nCol_congr (fun i hi => ?_)
    have h1 := place_lt2 hq hi
    rw [pgE_len]
    omega
  have hg : ∀ i, i < nCol xs.length (s + q) R A → (pgE xs s (R * A)).getD (0 + q + i * R) 0 = xs.getD (s + q + i * R) 0 := by
    intro i hi
    rw [← hn] at hi
    have h1 := nCol_in hi
    rw [pgE_get h1]
    congr 1
    omega
  refine ⟨hn, ?_, ?_⟩
  · unfold lnB cellB
    rw [hn]
    have : ∀ c, c ≤ nCol xs.length (s + q) R A → ((List.range c).all fun j => entK (pgE xs s (R * A)) C (0 + q + j * R)) = ((List.range c).all fun j => entK xs C (s + q + j * R)) := by
      intro c
      induction c with
      | zero => intro _; rfl
      | succ c ih =>
        intro hc
        rw [List.range_succ, List.all_append, List.all_append, ih (by omega)]
        congr 1
        simp only [List.all_cons, List.all_nil, Bool.and_true]
        unfold entK
        rw [hg c (by omega)]
    exact this _ (Nat.le_refl _)
  · unfold lnL cellJ cellsT
    rw [hn]
    congr 1
    apply List.map_congr_left
    intro i hi
    unfold entT
    rw [hg i (List.mem_range.1 hi)]
theorem page_again {xs : List Int} {C s R A : Nat} (hA : 0 < A) : pgeB (pgE xs s (R * A)) C 0 R A = pgeB xs C s R A ∧ pgeF (pgE xs s (R * A)) C 0 R A = pgeF xs C s R A := by
  have hn : pgN (pgE xs s (R * A)).length 0 R = pgN xs.length s R := by
    unfold pgN
    rw [pgE_len]
    have : R ≤ R * A := Nat.le_mul_of_pos_right _ hA
    omega
  have hk : pgN xs.length s R ≤ R := by unfold pgN; omega
  have hB : pgeB (pgE xs s (R * A)) C 0 R A = pgeB xs C s R A := by
    unfold pgeB pgOk
    rw [hn]
    have : ∀ c, c ≤ R → ((List.range c).all fun i => lnB (pgE xs s (R * A)) C (0 + i) R A) = ((List.range c).all fun i => lnB xs C (s + i) R A) := by
      intro c
      induction c with
      | zero => intro _; rfl
      | succ c ih =>
        intro hc
        rw [List.range_succ, List.all_append, List.all_append, ih (by omega)]
        congr 1
        simp only [List.all_cons, List.all_nil, Bool.and_true]
        exact (line_again (show c < R by omega)).2.1
    exact this _ hk
  refine ⟨hB, ?_⟩
  unfold pgeF
  rw [hB]
  by_cases h : pgeB xs C s R A = true
  · rw [if_pos h, if_pos h]
    unfold pgLn
    rw [hn]
    apply List.map_congr_left
    intro i hi
    unfold lnS
    rw [(line_again (show i < R by have := List.mem_range.1 hi; omega)).2.2]
  · rw [if_neg h, if_neg h]
/-- a page that is printed is read -/
theorem page_read {r a c : Int} {xs : List Int} {p : Int} (h : plinB r a c xs p = true) :
    rpB r a c (plinS r a c xs p) = true ∧ rpX a c (plinS r a c xs p) = pgE xs (p * (r * a)).toNat (r * a).toNat := by
  have h1 := plin_lay h
  obtain ⟨hl, ht, p0, p1⟩ := pgB_iff h1
  obtain ⟨R, A, C, rfl, rfl, rfl⟩ := lay_nat hl
  obtain ⟨l1, l2, l3, l4, l5, l6, l7, l8⟩ := lay_mul hl
  obtain ⟨t1, t2, t3⟩ := tabB_iff ht
  obtain ⟨q, rfl⟩ : ∃ q : Nat, p = q := ⟨p.toNat, by omega⟩
  obtain ⟨e1, e2⟩ := plin_eq h1
  rw [e2] at h
  have e3 : ((q : Int) * ((R : Int) * (A : Int))).toNat = q * (R * A) := by rw [← Int.natCast_mul, ← Int.natCast_mul, Int.toNat_natCast]
  have e4 : ((R : Int) * (A : Int)).toNat = R * A := by rw [← Int.natCast_mul, Int.toNat_natCast]
  have hs : q * (R * A) < xs.length := by
    have : (q : Int) * ((R : Int) * (A : Int)) = ((q * (R * A) : Nat) : Int) := by simp
    omega
  have hM1 : 1 ≤ R * A := by have : (R : Int) * (A : Int) = ((R * A : Nat) : Int) := (by simp); omega
  generalize q * (R * A) = s at *
  rw [e1, e3, e4]
  have hX : rpX A C (pgeF xs C s R A) = pgE xs s (R * A) := by
    unfold rpX
    rw [Int.toNat_natCast, Int.toNat_natCast]
    exact page_vals t3 h hs (by omega)
  have hXl := pgE_len xs s (R * A)
  obtain ⟨g1, g2⟩ := page_again (xs := xs) (C := C) (s := s) (R := R) (A := A) (by omega)
  have htab : tabB (pgE xs s (R * A)) = true := by
    unfold tabB
    rw [inB_t (by omega) (by omega), pgE_all t3]
    rfl
  have hpn : 1 ≤ pnF R A C (pgE xs s (R * A)).length := by
    have e : pnF R A C (pgE xs s (R * A)).length = (((pgE xs s (R * A)).length : Int) + (R : Int) * A - 1) / ((R : Int) * A) := if_pos ⟨hl, by omega, by omega⟩
    rw [e]
    exact (Int.le_ediv_iff_mul_le (by omega)).2 (by omega)
  have hpg : pgB R A C (pgE xs s (R * A)) ((0 : Nat) : Int) = true := by
    unfold pgB
    rw [hl, htab, inB_t (by omega) (by omega)]
    rfl
  obtain ⟨f1, f2⟩ := plin_eq hpg
  rw [Nat.zero_mul, g2] at f1
  rw [Nat.zero_mul, g1, h] at f2
  refine ⟨?_, hX⟩
  unfold rpB
  rw [hX]
  have f1' : plinS R A C (pgE xs s (R * A)) 0 = pgeF xs C s R A := f1
  have f2' : plinB R A C (pgE xs s (R * A)) 0 = true := f2
  rw [f1', f2']
  simp only [Bool.true_and, decide_true]
  exact decide_eq_true (by have : (R : Int) * (A : Int) = ((R * A : Nat) : Int) := (by simp); omega)
theorem csum_add (xs : List Int) (f m : Nat) : ∀ k, csum xs f (m + k) = csum xs f m + csum xs (f + m) k := by
  intro k
  induction k with
  | zero => simp [csum]
  | succ k ih => rw [← Nat.add_assoc, csum, ih, csum, Nat.add_assoc f m k]; omega
def sumL (L : List Int) (k : Nat) : Int := csum L 0 k
theorem sum_psL (xs : List Int) (s r : Nat) : ∀ a, csum (psL xs s r a) 0 a = csum xs s (a * r) := by
  have hg : ∀ a i, i < a → (psL xs s r a).getD i 0 = csum xs (s + i * r) r := by
    intro a i hi
    simp [psL, List.getD, hi]
  have hs : ∀ a k, k ≤ a → csum (psL xs s r a) 0 k = csum xs s (k * r) := by
    intro a k
    induction k with
    | zero => intro _; simp [csum]
    | succ k ih =>
      intro hk
      rw [csum, ih (by omega), Nat.zero_add, hg a k (by omega), Nat.add_mul, Nat.one_mul, csum_add]
  exact fun a => hs a a (Nat.le_refl _)
end Go.Proofs.YtdgnhplaakjlgaaGreatDoor

namespace Go.Proofs.YtdgnhplaakjlgaaGreatDoor
set_option linter.unusedVariables false
open Go.RowKit

/-- the box of three numbers at block b -/
def Box3 (b : Nat) (x y z : Int) (w : World) : Prop := w.cell? ⟨b, 0, none⟩ = some (.int .i64 (x)) ∧ w.cell? ⟨b, 1, none⟩ = some (.int .i64 (y)) ∧ w.cell? ⟨b, 2, none⟩ = some (.int .i64 (z)) ∧ b < w.heap.size
theorem Box3.kept {b : Nat} {x y z : Int} {w w' : World} (h : Box3 b x y z w) (hB : Below w.heap.size w w') : Box3 b x y z w' := by
  obtain ⟨h0, h1, h2, h3⟩ := h
  exact ⟨by rw [(bcell hB).1 _ _ h3]; exact h0, by rw [(bcell hB).1 _ _ h3]; exact h1, by rw [(bcell hB).1 _ _ h3]; exact h2, by have := hB.size; omega⟩
theorem Box3.new (w : World) (x y z : Int) (t : TypeId) : Box3 w.heap.size x y z (w.alloc (.cells #[(.int .i64 (x)), (.int .i64 (y)), (.int .i64 (z))] t)) := by
  refine ⟨?_, ?_, ?_, by simp⟩ <;> simp [go_sem]
theorem OwnI_form3 {w : World} {base : Nat} {v : Value} {xs : List Int} (h : OwnI w base v xs) : ∃ a c, v = .slice a xs.length c := by
  obtain ⟨a, cap, rfl, _⟩ := owns_RdI h
  exact ⟨a, cap, by rw [List.length_map]⟩
theorem OwnS_form3 {w : World} {base : Nat} {v : Value} {xs : List ByteArray} (h : OwnS w base v xs) : ∃ a c, v = .slice a xs.length c := by
  obtain ⟨a, cap, rfl, _⟩ := owns_RdS h
  exact ⟨a, cap, by rw [List.length_map]⟩
end Go.Proofs.YtdgnhplaakjlgaaGreatDoor
