/- Contracts: the values of a plan; program and reference. -/
import Derived.Test.YtdfnclnjnmdboaaDoorPlan3
import Derived.Test.YtdfnclnjnmdboaaDoorAppN
namespace Go.Proofs.YtdfnclnjnmdboaaDoor
set_option linter.unusedVariables false
open Go.RowKit

/-- the values of a plan -/
def plV : List Seg → List Int
  | [] => []
  | s :: l => vals s.2 s.1.toNat ++ plV l
theorem plV_append : ∀ a b : List Seg, plV (a ++ b) = plV a ++ plV b
  | [], _ => rfl
  | s :: a, b => by simp [plV, plV_append a b]
theorem plV_take_succ (pl : List Seg) (k : Nat) (h : k < pl.length) : plV (pl.take (k + 1)) = plV (pl.take k) ++ vals (pl.getD k noG).2 (pl.getD k noG).1.toNat := by
  rw [take_succG pl k h, plV_append]; simp [plV]
theorem plV_len : ∀ pl : List Seg, pl.all cntB = true → ((plV pl).length : Int) = totG pl
  | [], _ => rfl
  | s :: l, h => by
    simp only [List.all_cons, Bool.and_eq_true] at h
    have h1 := plV_len l h.2
    have h2 := cntB_iff.1 h.1
    simp only [plV, totG, List.length_append, vals_len]
    omega
/-- segments that can be evaluated -/
def valOk (pl : List Seg) : Prop := ∀ s ∈ pl, 1 ≤ s.1 ∧ s.1 ≤ 60 ∧ polyB s.2 = true
theorem valOk_of {pl : List Seg} (h : pl.all segB = true) : valOk pl := fun s hs => by
  have := segB_iff (List.all_eq_true.1 h s hs)
  exact ⟨this.1, this.2.1, this.2.2.1⟩
theorem valOk.get {pl : List Seg} (h : valOk pl) {k : Nat} (hk : k < pl.length) : 1 ≤ (pl.getD k noG).1 ∧ (pl.getD k noG).1 ≤ 60 ∧ polyB (pl.getD k noG).2 = true := h _ (by simp [List.getD, hk])
theorem valOk.take_len {pl : List Seg} (h : valOk pl) (k : Nat) : (plV (pl.take k)).length ≤ k * 60 := by
  have hc : (pl.take k).all cntB = true := List.all_eq_true.2 fun s hs => by
    have := h s (List.mem_of_mem_take hs)
    exact cntB_iff.2 ⟨this.1, this.2.1⟩
  have h1 := plV_len _ hc
  have h2 := (tot_bd _ hc).2
  have h3 : (pl.take k).length ≤ k := List.length_take_le _ _
  omega
theorem OwnI_app' {w : World} {base : Nat} {v : Value} {n m : Nat} {xs ys : List Int} (hn : n = xs.length) (hm : m = ys.length) (h : w.ownsRow base 3 1 v (n + m) (xs.map (Value.int .i64) ++ ys.map (Value.int .i64))) : OwnI w base v (xs ++ ys) := by
  subst hn hm; unfold OwnI; simpa using h
theorem RdN_ints {w : World} {u : Value} {xs : List Int} (h : RdI w u xs) : RdN w 1 u xs.length (xs.map (Value.int .i64)) := by
  have := RdN_of_RdL h
  rwa [List.length_map] at this

theorem keepG {w wa wb : World} {b o o' : Nat} {v0 v1 : Value} {r : Option Nat} (hb : b < w.heap.size) (h : Below w.heap.size w wa ∧ wa.cell? ⟨b, o, none⟩ = some v0 ∧ wa.cell? ⟨b, o', none⟩ = some v1) (k : wa.grownBy wb r) (hr : ∀ j, r = some j → w.heap.size ≤ j) :
    Below w.heap.size w wb ∧ wb.cell? ⟨b, o, none⟩ = some v0 ∧ wb.cell? ⟨b, o', none⟩ = some v1 := by
  obtain ⟨h0, h1, h2⟩ := h
  have hs := h0.size
  have h3 : wb.heap[b]? = wa.heap[b]? := k.block b (by omega) (fun e => by have := hr b e.symm; omega)
  refine ⟨h0.grown k hs hr, ?_, ?_⟩
  · rw [World.cell?_of_block (w := wa) (a := ⟨b, o, none⟩) h3]; exact h1
  · rw [World.cell?_of_block (w := wa) (a := ⟨b, o', none⟩) h3]; exact h2
/-- the table of a plan, if it is one -/
def pvL (pl : List Seg) : List Int := if planB pl = true then plV pl else []
/-- the number of entries of a plan -/
def plN (pl : List Seg) : Int := if planB pl = true then totG pl else -1
def degM : List Seg → Int
  | [] => -1
  | s :: l => max (degP s.2) (degM l)
/-- the greatest degree of a plan -/
def pdF (pl : List Seg) : Int := if planB pl = true then degM pl else -2
theorem degM_append : ∀ a b : List Seg, degM (a ++ b) = max (degM a) (degM b)
  | [], b => by
    have : ∀ l : List Seg, -1 ≤ degM l := fun l => by
      induction l with
      | nil => simp [degM]
      | cons s l ih => simp only [degM]; omega
    have := this b
    simp [degM]; omega
  | s :: a, b => by simp only [List.cons_append, degM, degM_append a b]; omega
theorem degM_take_succ (pl : List Seg) (k : Nat) (h : k < pl.length) : degM (pl.take (k + 1)) = max (degM (pl.take k)) (degP (pl.getD k noG).2) := by
  rw [take_succG pl k h, degM_append]
  have : ∀ l : List Seg, -1 ≤ degM l := fun l => by
    induction l with
    | nil => simp [degM]
    | cons s l ih => simp only [degM]; omega
  have := this (pl.take k)
  simp only [degM]; omega
end Go.Proofs.YtdfnclnjnmdboaaDoor
