/- Contracts: checked polynomials, the least degree of a table, the polynomial with a table; program and reference. -/
import Derived.Test.YtdfnclnjnmdboaaDoorPoly3
namespace Go.Proofs.YtdfnclnjnmdboaaDoor
set_option linter.unusedVariables false
open Go.RowKit

set_option maxRecDepth 20000 in
theorem c_checked_t (v : Value) (p : List Int) (w : World) (ha : RdI w v p) (hp : polyB p = true) :
    Calls Tryd.prog 58 #[v] w fun e w' => e = .returned (.tuple #[v, .bool true]) ∧ Below w.heap.size w w' := by
  have hl := (polyB_iff hp).2.1
  go_enter Tryd.func58, Tryd.ntmps58
  go_wp2_with fail
  refine (c_impl_PolyValid v p _ ha (by omega)).mono ?_
  rw [hp]
  rintro e w1 ⟨rfl, hB⟩
  go_wp2
  go_ret2
  exact ⟨rfl, hB⟩
set_option maxRecDepth 20000 in
theorem c_checked_f (v : Value) (p : List Int) (w : World) (ha : RdI w v p) (hx : p.length ≤ 1099511627776) (hp : polyB p = false) :
    Calls Tryd.prog 58 #[v] w fun e w' => e = .returned (.tuple #[.slice none 0 0, .bool false]) ∧ Below w.heap.size w w' := by
  go_enter Tryd.func58, Tryd.ntmps58
  go_wp2_with fail
  refine (c_impl_PolyValid v p _ ha hx).mono ?_
  rw [hp]
  rintro e w1 ⟨rfl, hB⟩
  go_wp2
  go_ret2
  exact ⟨rfl, hB⟩
/-- first differences that are a polynomial, or nothing -/
def resL (p : List Int) : List Int := if polyB p = true then p else []
/-- the least degree, -2 if the numbers are no table -/
def ldF (xs : List Int) : Int := if tabB xs = true then ld xs else -2
theorem tabB_bd {xs : List Int} (h : tabB xs = true) : ∀ k, k ≤ 7 → bdI (nxtN k xs) := by
  intro k hk i
  obtain ⟨_, _, h3⟩ := tabB_iff h
  have hg : ∀ i, -1000000000 ≤ xs.getD i 0 ∧ xs.getD i 0 ≤ 1000000000 := fun i => by
    by_cases hi : i < xs.length
    · exact allIn_get h3 hi
    · simp [List.getD, Nat.le_of_not_lt hi]
  have h1 := nxtN_bd 1000000000 (by decide) k xs hg i
  have h2 : (2 : Int) ^ k ≤ 2 ^ 7 := pow_mono_right (by omega) hk
  have h3 : (2 : Int) ^ 7 = 128 := by decide
  omega
theorem ldN_z {f : Nat} {k : Int} {l : List Int} (h : allZ l = true) : ldN (f + 1) k l = k := if_pos h
theorem ldN_n {f : Nat} {k : Int} {l : List Int} (h : allZ l = false) : ldN (f + 1) k l = ldN f (k + 1) (nxt l) := if_neg (by rw [h]; decide)

/-- the polynomial with a table -/
def intB (xs : List Int) : Bool := tabB xs && decide (ld xs ≤ 6) && polyB (ip xs)
def intL (xs : List Int) : List Int := if intB xs = true then ip xs else []
theorem ipN_max {xs : List Int} : max (ld xs) 0 = ((iplN xs - 1 : Nat) : Int) := by have := ld_bd xs; unfold iplN; omega
theorem ipN_max1 {xs : List Int} : max (ld xs + 1) 1 = ((iplN xs : Nat) : Int) := by have := ld_bd xs; unfold iplN; omega
theorem take_bd {xs : List Int} (h : tabB xs = true) (m : Nat) (hm : m ≤ 7) : ∀ k, bdI (nxtN k (xs.take m)) := by
  intro k i
  by_cases hk : k ≤ 7
  · rw [nxtN_take]
    by_cases hi : i < m - k
    · rw [getD_take _ _ _ hi]; exact tabB_bd h k hk i
    · have : ((nxtN k xs).take (m - k)).getD i 0 = 0 := by simp [List.getD, List.getElem?_take, hi]
      rw [this]; simp
  · have : nxtN k (xs.take m) = [] := List.eq_nil_of_length_eq_zero (by rw [nxtN_len, List.length_take]; omega)
    rw [this]; simp
theorem RdI_take {w : World} {a : Option Addr} {n cap k : Nat} {xs : List Int} (h : RdI w (.slice a n cap) xs) (hk : k ≤ xs.length) : RdI w (.slice a k cap) (xs.take k) := by
  have hn : n = xs.length := by
    obtain ⟨a2, c2, e, _⟩ := h
    simp only [Value.slice.injEq, List.length_map] at e
    exact e.2.1
  subst hn
  obtain ⟨a2, c2, e, h⟩ := h
  simp only [Value.slice.injEq, List.length_map, true_and] at e
  obtain ⟨rfl, rfl⟩ := e
  refine ⟨a, cap, by simp [Nat.min_eq_left hk], ?_⟩
  rcases h with h | ⟨b, off, rfl, hlt, h⟩
  · exact .inl (by rw [List.map_eq_nil_iff] at h ⊢; rw [h]; simp)
  · refine .inr ⟨b, off, rfl, hlt, fun i hi => ?_⟩
    have hi' : i < k ∧ i < xs.length := by simp at hi; omega
    rw [h i (by simpa using hi'.2)]
    simp [hi'.1]

end Go.Proofs.YtdfnclnjnmdboaaDoor
