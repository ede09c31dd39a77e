/- Contracts: rounded tables, program and reference. -/
import Derived.Test.YtdfnclnjnmdboaaGreatDoorTab
namespace Go.Proofs.YtdfnclnjnmdboaaGreatDoor
set_option linter.unusedVariables false
open Go.RowKit

def FreshIB (w : World) (xs : List Int) (b : Bool) (e : Ending) (w' : World) : Prop :=
  ∃ v, e = .returned (.tuple #[v, .bool b]) ∧ OwnI w' w.heap.size v xs ∧ Below w.heap.size w w'
def rtB (xs : List Int) (d way : Int) : Bool := tabB xs && wayB d way
def rtL (xs : List Int) (d way : Int) : List Int := if rtB xs d way = true then xs.map (fun n => rnd n d way) else []
theorem rtB_iff {xs : List Int} {d way : Int} (h : rtB xs d way = true) : tabB xs = true ∧ wayB d way = true := by unfold rtB at h; rwa [Bool.and_eq_true] at h
theorem wayB_iff {d way : Int} (h : wayB d way = true) : 0 ≤ d ∧ d ≤ 6 ∧ 0 ≤ way ∧ way ≤ 2 := by simpa [wayB] using h
theorem rtL_len (xs : List Int) (d way : Int) : (rtL xs d way).length ≤ 60 := by
  unfold rtL; split
  · rename_i h
    have := tabB_iff (rtB_iff h).1
    simp; omega
  · simp
theorem rnd_entry {xs : List Int} {d way : Int} {k : Nat} (h : rtB xs d way = true) (hk : k < xs.length) : -1000000000 ≤ xs.getD k 0 ∧ xs.getD k 0 ≤ 1000000000 ∧ rndB (xs.getD k 0) d way = true ∧ rnd (xs.getD k 0) d way = rndF (xs.getD k 0) (ten d.toNat) way := by
  obtain ⟨h1, h2⟩ := rtB_iff h
  obtain ⟨_, _, h3⟩ := tabB_iff h1
  have h4 := allIn_get h3 hk
  have h5 : rndB (xs.getD k 0) d way = true := by rw [rndB_eq, inB_t h4.1 h4.2, h2]; rfl
  exact ⟨h4.1, h4.2, h5, if_pos h5⟩
theorem map_getD_end (xs : List Int) (f : Int → Int) : (List.range xs.length).map (fun i => (.int .i64 (f (xs.getD i 0)))) = (xs.map f).map (Value.int .i64) := by
  apply List.ext_getElem
  · simp
  · intro i h1 h2; simp at h1; simp [List.getD, h1]
theorem map_take_succ (xs : List Int) (f : Int → Int) (k : Nat) (hk : k < xs.length) : (xs.take (k + 1)).map f = (xs.take k).map f ++ [f (xs.getD k 0)] := by
  rw [List.take_add_one, List.map_append]
  congr 1
  simp [List.getD, hk]
theorem ownsRow_mono {w : World} {base base' e : Nat} {size : Nat} {v : Value} {n : Nat} {xs : List Value} (h : w.ownsRow base e size v n xs) (hb : base' ≤ base) : w.ownsRow base' e size v n xs := by
  obtain ⟨h1, h2⟩ := h
  refine ⟨h1, ?_⟩
  rcases h2 with h2 | ⟨g, cap, cur, hv, hg, r⟩
  · exact .inl h2
  · exact .inr ⟨g, cap, cur, hv, by omega, r⟩
theorem OwnI_snoc' {w : World} {base : Nat} {v : Value} {n : Nat} {xs : List Int} {y : Int} (hn : n = xs.length) (h : w.ownsRow base 3 1 v (n + 1) (xs.map (Value.int .i64) ++ [.int .i64 y])) : OwnI w base v (xs ++ [y]) := by
  subst hn; unfold OwnI; simpa using h

end Go.Proofs.YtdfnclnjnmdboaaGreatDoor
