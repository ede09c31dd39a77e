/- Plain facts and rows for the cheapest plan in the program: the least costs are tried from the longest run down. -/
import Derived.Test.YtkfejnifbkgihaaCp4
import Derived.Test.YtkfejnifbkgihaaPlan11
namespace Go.Proofs.Ytkfejnifbkgihaa
set_option linter.unusedVariables false
open Go.RowKit

/-- runs longer than c are tried: v is the least cost so far, k the longest run with it -/
def InvD (g : Nat → Int) (m c : Nat) (v : Int) (k : Nat) : Prop :=
  (m ≤ c ∧ v = 0 ∧ k = 0) ∨ (c < m ∧ c < k ∧ k ≤ m ∧ v = g k ∧ (∀ e, c < e → e ≤ m → v ≤ g e) ∧ ∀ e, k < e → e ≤ m → v < g e)
theorem InvD.skip {g : Nat → Int} {m c k : Nat} {v : Int} (h : InvD g m (c + 1) v k) (hcm : m < c + 1) : InvD g m c v k := by
  rcases h with ⟨h1, h2, h3⟩ | ⟨h1, _⟩
  · exact .inl ⟨by omega, h2, h3⟩
  · omega
theorem InvD.new {g : Nat → Int} {m c k : Nat} {v : Int} (h : InvD g m (c + 1) v k) (hcm : c + 1 ≤ m) (hlt : k = 0 ∨ g (c + 1) < v) : InvD g m c (g (c + 1)) (c + 1) := by
  rcases h with ⟨h1, h2, h3⟩ | ⟨h1, h2, h3, h4, h5, h6⟩
  · refine .inr ⟨by omega, by omega, hcm, rfl, fun e h7 h8 => ?_, fun e h7 h8 => by omega⟩
    obtain rfl : e = c + 1 := by omega
    exact Int.le_refl _
  · have hl : g (c + 1) < v := by omega
    refine .inr ⟨by omega, by omega, hcm, rfl, fun e h7 h8 => ?_, fun e h7 h8 => ?_⟩
    · rcases Nat.lt_or_ge (c + 1) e with h9 | h9
      · have := h5 e h9 h8; omega
      · have : e = c + 1 := by omega
        rw [this]; omega
    · have := h5 e h7 h8; omega
theorem InvD.keep {g : Nat → Int} {m c k : Nat} {v : Int} (h : InvD g m (c + 1) v k) (hcm : c + 1 ≤ m) (h1 : k ≠ 0) (hlt : ¬ g (c + 1) < v) : InvD g m c v k := by
  rcases h with ⟨_, _, h3⟩ | ⟨q1, q2, q3, q4, q5, q6⟩
  · exact absurd h3 h1
  · refine .inr ⟨by omega, by omega, q3, q4, fun e h7 h8 => ?_, q6⟩
    rcases Nat.lt_or_ge (c + 1) e with h9 | h9
    · exact q5 e h9 h8
    · have : e = c + 1 := by omega
      rw [this]; omega
theorem InvD.fin {g : Nat → Int} {m k : Nat} {v : Int} (h : InvD g m 0 v k) (hm : 1 ≤ m) (hb : ∀ e, g e ≤ 1099511627776) : v = mn g m ∧ k = lst g (mn g m) m := by
  rcases h with ⟨h1, _⟩ | ⟨h1, h2, h3, h4, h5, h6⟩
  · omega
  · obtain ⟨e, r1, r2, r3⟩ := mn_at g m hm (fun e _ _ => hb e)
    have a := h5 e (by omega) r2
    have b := mn_le g m k (by omega) h3
    have hv : v = mn g m := by omega
    refine ⟨hv, (lst_is g _ m k (by omega) h3 (by omega) (fun e h7 h8 => ?_)).symm⟩
    have := h6 e h7 h8
    omega
/-- the first segments of cheapest plans from place F on -/
def chS (d a b : Int) (l : List Int) : Seg := ((ch d a b l : Int), runL (l.take (ch d a b l)) d)
def bestL (d a b : Int) (xs : List Int) (F : Nat) : List Seg := (List.range xs.length).map fun j => if F ≤ j then chS d a b (xs.drop j) else noG
theorem bestL_len (d a b : Int) (xs : List Int) (F : Nat) : (bestL d a b xs F).length = xs.length := by simp [bestL]
theorem bestL_at {d a b : Int} {xs : List Int} {F j : Nat} (h : F ≤ j) (hj : j < xs.length) : (bestL d a b xs F).getD j noG = chS d a b (xs.drop j) := by
  simp [bestL, List.getD, hj, h]
theorem bestL_start (d a b : Int) (xs : List Int) : bestL d a b xs xs.length = List.replicate xs.length noG := by
  apply List.ext_getElem
  · simp [bestL]
  · intro i h1 h2
    simp [bestL] at h1 ⊢
    intro h; omega
def segK (d : Int) (l : List Int) (k : Nat) : Seg := if k = 0 then noG else ((k : Int), runL (l.take k) d)
theorem segK_c (d : Int) (l : List Int) (k : Nat) : (segK d l k).1 = (k : Int) := by
  unfold segK; split
  · rename_i h; subst h; rfl
  · rfl
theorem segK_s (d : Int) (l : List Int) {k : Nat} (h : k ≠ 0) : segK d l k = ((k : Int), runL (l.take k) d) := if_neg h
/-- .. while place F is worked out -/
def bestI (d a b : Int) (xs : List Int) (F k : Nat) : List Seg := (bestL d a b xs (F + 1)).set F (segK d (xs.drop F) k)
theorem bestI_len (d a b : Int) (xs : List Int) (F k : Nat) : (bestI d a b xs F k).length = xs.length := by simp [bestI, bestL]
theorem bestI_at {d a b : Int} {xs : List Int} {F k : Nat} (h : F < xs.length) : (bestI d a b xs F k).getD F noG = segK d (xs.drop F) k := by
  simp [bestI, bestL, List.getD, h]
theorem bestI_set (d a b : Int) (xs : List Int) (F k : Nat) {c : Nat} (h : c ≠ 0) : (bestI d a b xs F k).set F ((c : Int), runL ((xs.drop F).take c) d) = bestI d a b xs F c := by
  rw [bestI, List.set_set, bestI, segK_s _ _ h]
theorem bestI_zero (d a b : Int) (xs : List Int) (F : Nat) (h : F < xs.length) : bestI d a b xs F 0 = bestL d a b xs (F + 1) := by
  unfold bestI
  apply List.ext_getElem
  · simp
  · intro i h1 h2
    rw [List.getElem_set]
    by_cases e : F = i
    · subst e; simp [bestL, segK]; intro h; omega
    · rw [if_neg e]
theorem bestI_end (d a b : Int) (xs : List Int) (F : Nat) (h : F < xs.length) (hc : ch d a b (xs.drop F) ≠ 0) : bestI d a b xs F (ch d a b (xs.drop F)) = bestL d a b xs F := by
  unfold bestI
  apply List.ext_getElem
  · simp [bestL]
  · intro i h1 h2
    rw [List.getElem_set]
    by_cases e : F = i
    · subst e; rw [if_pos rfl, segK_s _ _ hc]; simp [bestL, chS]
    · rw [if_neg e]
      simp only [bestL, List.getElem_map, List.getElem_range]
      by_cases hi : F ≤ i
      · rw [if_pos hi, if_pos (by omega)]
      · rw [if_neg hi, if_neg (by omega)]
/-- the least costs while place F is worked out -/
def bsV (d a b : Int) (xs : List Int) (F : Nat) (v : Int) : List Int := (bsT d a b xs (F + 1)).set F v
theorem bsV_len (d a b : Int) (xs : List Int) (F : Nat) (v : Int) : (bsV d a b xs F v).length = xs.length + 1 := by simp [bsV, bsT]
theorem bsV_at {d a b : Int} {xs : List Int} {F c : Nat} {v : Int} (hc : 1 ≤ c) (h : F + c ≤ xs.length) : (bsV d a b xs F v).getD (F + c) 0 = bs d a b ((xs.drop F).drop c) := by
  unfold bsV
  simp only [List.getD]
  rw [List.getElem?_set_ne (by omega), List.drop_drop]
  exact bsT_at (by omega) h
theorem bsV_at0 {d a b : Int} {xs : List Int} {F : Nat} {v : Int} (h : F ≤ xs.length) : (bsV d a b xs F v).getD F 0 = v := by
  simp [bsV, bsT, List.getD, show F < xs.length + 1 by omega]
theorem bsV_set (d a b : Int) (xs : List Int) (F : Nat) (v u : Int) : (bsV d a b xs F v).set F u = bsV d a b xs F u := by simp [bsV]
theorem bsV_zero (d a b : Int) (xs : List Int) (F : Nat) (h : F ≤ xs.length) : bsV d a b xs F 0 = bsT d a b xs (F + 1) := by
  unfold bsV
  apply List.ext_getElem
  · simp
  · intro i h1 h2
    rw [List.getElem_set]
    by_cases e : F = i
    · subst e; simp [bsT]; intro h; omega
    · rw [if_neg e]
theorem bsV_end (d a b : Int) (xs : List Int) (F : Nat) : bsV d a b xs F (bs d a b (xs.drop F)) = bsT d a b xs F := bsT_set d a b xs F

/-- a row of segments about to be given a new one -/
def OwQ (W : World) (S n F : Nat) (c : Int) (pv : Value) (p : List Int) (pl : List Seg) : Prop :=
  ∃ rs, rs.length = n ∧ W.ownsRow S 31 2 (.slice (some ⟨S, 0, none⟩) n n) n (segCells rs) ∧ PolysO W S rs pl ∧ ApartR (rs.set F (c, pv)) ∧ OwnI W S pv p
theorem OwQ_of {W0 W : World} {S n F : Nat} {c : Int} {pv : Value} {p : List Int} {pl : List Seg} (h : OwP W0 S (.slice (some ⟨S, 0, none⟩) n n) pl) (hl : pl.length = n) (hF : F < n) (hk : Below W0.heap.size W0 W) (hp : OwnI W W0.heap.size pv p) (hS : S ≤ W0.heap.size) : OwQ W S n F c pv p pl := by
  obtain ⟨rs, h1, h2, h3⟩ := h
  have hrl : rs.length = n := by rw [h2.1, hl]
  have hlt := h2.lt
  rw [hrl] at h1
  refine ⟨rs, hrl, ownsRow_kept_below h1 hk, h2.kept hk, h3.set (by omega) (fun i hi _ => ?_), ownsRow_mono hp hS⟩
  cases hv : pv.ownBlock with
  | none => exact .inl rfl
  | some j =>
    refine .inr (fun e => ?_)
    have a := hlt i hi j e.symm
    have b := (hp.lt j hv).1
    omega
theorem OwQ.setL {W : World} {S n F L o : Nat} {c : Int} {pv u : Value} {p : List Int} {pl : List Seg} (h : OwQ W S n F c pv p pl) (hL : L < S) : OwQ (W.setCell ⟨L, o, none⟩ u) S n F c pv p pl := by
  obtain ⟨rs, h0, h1, h2, h3, h4⟩ := h
  exact ⟨rs, h0, own_set h1 hL, ⟨h2.1, fun k hk => ⟨(h2.2 k hk).1, own_set (h2.2 k hk).2 hL⟩⟩, h3, own_set h4 hL⟩
theorem OwP.setL {W : World} {S L o : Nat} {u v : Value} {pl : List Seg} (h : OwP W S v pl) (hL : L < S) : OwP (W.setCell ⟨L, o, none⟩ u) S v pl := by
  obtain ⟨rs, h1, h2, h3⟩ := h
  exact ⟨rs, own_set h1 hL, ⟨h2.1, fun k hk => ⟨(h2.2 k hk).1, own_set (h2.2 k hk).2 hL⟩⟩, h3⟩
theorem OwQ.store {W : World} {S n F : Nat} {c : Int} {pv : Value} {p : List Int} {pl : List Seg} (h : OwQ W S n F c pv p pl) (hF : F < n) : OwP ((W.setCell ⟨S, F * 2, none⟩ (.int .i64 c)).setCell ⟨S, F * 2 + 1, none⟩ pv) S (.slice (some ⟨S, 0, none⟩) n n) (pl.set F (c, p)) := by
  obtain ⟨rs, rfl, h1, h2, h3, h4⟩ := h
  have q1 := (h1.stored (F * 2) (.int .i64 c)).1
  have q2 := (q1.stored (F * 2 + 1) pv).1
  rw [← segCells_set1 rs F c hF] at q2
  have e2 := segCells_set2 (rs.set F (c, (rs.getD F noR).2)) F pv (by simpa using hF)
  rw [getD_setR _ _ _ _ hF, if_pos rfl, List.set_set] at e2
  rw [← e2] at q2
  exact OwP_set h1 h2 h3 hF h4 (grownBy_trans (grownBy_setCell W S _ _) (grownBy_setCell _ S _ _)) q2
theorem OwP_cell {W : World} {S n F : Nat} {pl : List Seg} (h : OwP W S (.slice (some ⟨S, 0, none⟩) n n) pl) (hl : pl.length = n) (hF : F < n) :
    W.cell? ⟨S, F * 2, none⟩ = some (.int .i64 (pl.getD F noG).1) ∧ (∃ u, W.cell? ⟨S, F * 2 + 1, none⟩ = some u) ∧ W.frozen? ⟨S, F * 2, none⟩ = false ∧ W.frozen? ⟨S, F * 2 + 1, none⟩ = false := by
  obtain ⟨rs, h1, h2, h3⟩ := h
  have hrl : rs.length = n := by rw [h2.1, hl]
  rw [hrl] at h1
  obtain ⟨g1, g2⟩ := segCells_get rs F (by omega)
  rw [(h2.2 F (by omega)).1] at g1
  exact ⟨by rw [h1.cellAt (F * 2) (by omega)]; exact g1, ⟨_, by rw [h1.cellAt (F * 2 + 1) (by omega)]; exact g2⟩, h1.frozenAt _, h1.frozenAt _⟩
end Go.Proofs.Ytkfejnifbkgihaa
