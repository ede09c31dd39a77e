/- Lemmas and contracts for WholePlan (Cp5 Cp6): plain words on memory, contracts of the functions that the law reaches. No condition but what each states. -/
import Derived.Test.YtdfnclnjnmdboaaGreatDoorMWholePlanCp2
import Derived.Test.YtdfnclnjnmdboaaGreatDoorMWholePlanPlan10
import Derived.Test.YtdfnclnjnmdboaaGreatDoorMWholePlanPlan9
namespace Go.Proofs.YtdfnclnjnmdboaaGreatDoor
set_option linter.unusedVariables false
open Go.RowKit

/-- runs longer than c are tried: v is the least cost so far, k the longest run with it -/
def InvD (g : Nat → Int) (m c : Nat) (v : Int) (k : Nat) : Prop :=
  (m ≤ c ∧ v = 0 ∧ k = 0) ∨ (c < m ∧ c < k ∧ k ≤ m ∧ v = g k ∧ (∀ e, c < e → e ≤ m → v ≤ g e) ∧ ∀ e, k < e → e ≤ m → v < g e)
theorem InvD.skip {g : Nat → Int} {m c k : Nat} {v : Int} (h : InvD g m (c + 1) v k) (hcm : m < c + 1) : InvD g m c v k := by
  rcases h with ⟨h1, h2, h3⟩ | ⟨h1, _⟩
  · exact .inl ⟨by omega, h2, h3⟩
  · omega
theorem InvD.new {g : Nat → Int} {m c k : Nat} {v : Int} (h : InvD g m (c + 1) v k) (hcm : c + 1 ≤ m) (hlt : k = 0 ∨ g (c + 1) < v) : InvD g m c (g (c + 1)) (c + 1) := by
  rcases h with ⟨h1, h2, h3⟩ | ⟨h1, h2, h3, h4, h5, h6⟩
  · refine .inr ⟨by omega, by omega, hcm, rfl, fun e h7 h8 => ?_, fun e h7 h8 => by omega⟩
    obtain rfl : e = c + 1 := by omega
    exact Int.le_refl _
  · have hl : g (c + 1) < v := by omega
    refine .inr ⟨by omega, by omega, hcm, rfl, fun e h7 h8 => ?_, fun e h7 h8 => ?_⟩
    · rcases Nat.lt_or_ge (c + 1) e with h9 | h9
      · have := h5 e h9 h8; omega
      · have : e = c + 1 := by omega
        rw [this]; omega
    · have := h5 e h7 h8; omega
theorem InvD.keep {g : Nat → Int} {m c k : Nat} {v : Int} (h : InvD g m (c + 1) v k) (hcm : c + 1 ≤ m) (h1 : k ≠ 0) (hlt : ¬ g (c + 1) < v) : InvD g m c v k := by
  rcases h with ⟨_, _, h3⟩ | ⟨q1, q2, q3, q4, q5, q6⟩
  · exact absurd h3 h1
  · refine .inr ⟨by omega, by omega, q3, q4, fun e h7 h8 => ?_, q6⟩
    rcases Nat.lt_or_ge (c + 1) e with h9 | h9
    · exact q5 e h9 h8
    · have : e = c + 1 := by omega
      rw [this]; omega
theorem InvD.fin {g : Nat → Int} {m k : Nat} {v : Int} (h : InvD g m 0 v k) (hm : 1 ≤ m) (hb : ∀ e, g e ≤ 1099511627776) : v = mn g m ∧ k = lst g (mn g m) m := by
  rcases h with ⟨h1, _⟩ | ⟨h1, h2, h3, h4, h5, h6⟩
  · omega
  · obtain ⟨e, r1, r2, r3⟩ := mn_at g m hm (fun e _ _ => hb e)
    have a := h5 e (by omega) r2
    have b := mn_le g m k (by omega) h3
    have hv : v = mn g m := by omega
    refine ⟨hv, (lst_is g _ m k (by omega) h3 (by omega) (fun e h7 h8 => ?_)).symm⟩
    have := h6 e h7 h8
    omega
/-- the first segments of cheapest plans from place F on -/
def chS (d a b : Int) (l : List Int) : Seg := ((ch d a b l : Int), runL (l.take (ch d a b l)) d)
def bestL (d a b : Int) (xs : List Int) (F : Nat) : List Seg := (List.range xs.length).map fun j => if F ≤ j then chS d a b (xs.drop j) else noG
theorem bestL_len (d a b : Int) (xs : List Int) (F : Nat) : (bestL d a b xs F).length = xs.length := by simp [bestL]
theorem bestL_at {d a b : Int} {xs : List Int} {F j : Nat} (h : F ≤ j) (hj : j < xs.length) : (bestL d a b xs F).getD j noG = chS d a b (xs.drop j) := by
  simp [bestL, List.getD, hj, h]
theorem bestL_start (d a b : Int) (xs : List Int) : bestL d a b xs xs.length = List.replicate xs.length noG := by
  apply List.ext_getElem
  · simp [bestL]
  · intro i h1 h2
    simp [bestL] at h1 ⊢
    intro h; omega
def segK (d : Int) (l : List Int) (k : Nat) : Seg := if k = 0 then noG else ((k : Int), runL (l.take k) d)
theorem segK_c (d : Int) (l : List Int) (k : Nat) : (segK d l k).1 = (k : Int) := by
  unfold segK; split
  · rename_i h; subst h; rfl
  · rfl
theorem segK_s (d : Int) (l : List Int) {k : Nat} (h : k ≠ 0) : segK d l k = ((k : Int), runL (l.take k) d) := if_neg h
/-- .. while place F is worked out -/
def bestI (d a b : Int) (xs : List Int) (F k : Nat) : List Seg := (bestL d a b xs (F + 1)).set F (segK d (xs.drop F) k)
theorem bestI_len (d a b : Int) (xs : List Int) (F k : Nat) : (bestI d a b xs F k).length = xs.length := by simp [bestI, bestL]
theorem bestI_at {d a b : Int} {xs : List Int} {F k : Nat} (h : F < xs.length) : (bestI d a b xs F k).getD F noG = segK d (xs.drop F) k := by
  simp [bestI, bestL, List.getD, h]
theorem bestI_set (d a b : Int) (xs : List Int) (F k : Nat) {c : Nat} (h : c ≠ 0) : (bestI d a b xs F k).set F ((c : Int), runL ((xs.drop F).take c) d) = bestI d a b xs F c := by
  rw [bestI, List.set_set, bestI, segK_s _ _ h]
theorem bestI_zero (d a b : Int) (xs : List Int) (F : Nat) (h : F < xs.length) : bestI d a b xs F 0 = bestL d a b xs (F + 1) := by
  unfold bestI
  apply List.ext_getElem
  · simp
  · intro i h1 h2
    rw [List.getElem_set]
    by_cases e : F = i
    · subst e; simp [bestL, segK]; intro h; omega
    · rw [if_neg e]
theorem bestI_end (d a b : Int) (xs : List Int) (F : Nat) (h : F < xs.length) (hc : ch d a b (xs.drop F) ≠ 0) : bestI d a b xs F (ch d a b (xs.drop F)) = bestL d a b xs F := by
  unfold bestI
  apply List.ext_getElem
  · simp [bestL]
  · intro i h1 h2
    rw [List.getElem_set]
    by_cases e : F = i
    · subst e; rw [if_pos rfl, segK_s _ _ hc]; simp [bestL, chS]
    · rw [if_neg e]
      simp only [bestL, List.getElem_map, List.getElem_range]
      by_cases hi : F ≤ i
      · rw [if_pos hi, if_pos (by omega)]
      · rw [if_neg hi, if_neg (by omega)]
/-- the least costs while place F is worked out -/
def bsV (d a b : Int) (xs : List Int) (F : Nat) (v : Int) : List Int := (bsT d a b xs (F + 1)).set F v
theorem bsV_len (d a b : Int) (xs : List Int) (F : Nat) (v : Int) : (bsV d a b xs F v).length = xs.length + 1 := by simp [bsV, bsT]
theorem bsV_at {d a b : Int} {xs : List Int} {F c : Nat} {v : Int} (hc : 1 ≤ c) (h : F + c ≤ xs.length) : (bsV d a b xs F v).getD (F + c) 0 = bs d a b ((xs.drop F).drop c) := by
  unfold bsV
  simp only [List.getD]
  rw [List.getElem?_set_ne (by omega), List.drop_drop]
  exact bsT_at (by omega) h
theorem bsV_at0 {d a b : Int} {xs : List Int} {F : Nat} {v : Int} (h : F ≤ xs.length) : (bsV d a b xs F v).getD F 0 = v := by
  simp [bsV, bsT, List.getD, show F < xs.length + 1 by omega]
theorem bsV_set (d a b : Int) (xs : List Int) (F : Nat) (v u : Int) : (bsV d a b xs F v).set F u = bsV d a b xs F u := by simp [bsV]
theorem bsV_zero (d a b : Int) (xs : List Int) (F : Nat) (h : F ≤ xs.length) : bsV d a b xs F 0 = bsT d a b xs (F + 1) := by
  unfold bsV
  apply List.ext_getElem
  · simp
  · intro i h1 h2
    rw [List.getElem_set]
    by_cases e : F = i
    · subst e; simp [bsT]; intro h; omega
    · rw [if_neg e]
theorem bsV_end (d a b : Int) (xs : List Int) (F : Nat) : bsV d a b xs F (bs d a b (xs.drop F)) = bsT d a b xs F := bsT_set d a b xs F

/-- a row of segments about to be given a new one -/
def OwQ (W : World) (S n F : Nat) (c : Int) (pv : Value) (p : List Int) (pl : List Seg) : Prop :=
  ∃ rs, rs.length = n ∧ W.ownsRow S 44 2 (.slice (some ⟨S, 0, none⟩) n n) n (segCells rs) ∧ PolysO W S rs pl ∧ ApartR (rs.set F (c, pv)) ∧ OwnI W S pv p
theorem OwQ_of {W0 W : World} {S n F : Nat} {c : Int} {pv : Value} {p : List Int} {pl : List Seg} (h : OwP W0 S (.slice (some ⟨S, 0, none⟩) n n) pl) (hl : pl.length = n) (hF : F < n) (hk : Below W0.heap.size W0 W) (hp : OwnI W W0.heap.size pv p) (hS : S ≤ W0.heap.size) : OwQ W S n F c pv p pl := by
  obtain ⟨rs, h1, h2, h3⟩ := h
  have hrl : rs.length = n := by rw [h2.1, hl]
  have hlt := h2.lt
  rw [hrl] at h1
  refine ⟨rs, hrl, ownsRow_kept_below h1 hk, h2.kept hk, h3.set (by omega) (fun i hi _ => ?_), ownsRow_mono hp hS⟩
  cases hv : pv.ownBlock with
  | none => exact .inl rfl
  | some j =>
    refine .inr (fun e => ?_)
    have a := hlt i hi j e.symm
    have b := (hp.lt j hv).1
    omega
theorem OwQ.setL {W : World} {S n F L o : Nat} {c : Int} {pv u : Value} {p : List Int} {pl : List Seg} (h : OwQ W S n F c pv p pl) (hL : L < S) : OwQ (W.setCell ⟨L, o, none⟩ u) S n F c pv p pl := by
  obtain ⟨rs, h0, h1, h2, h3, h4⟩ := h
  exact ⟨rs, h0, own_set h1 hL, ⟨h2.1, fun k hk => ⟨(h2.2 k hk).1, own_set (h2.2 k hk).2 hL⟩⟩, h3, own_set h4 hL⟩
theorem OwP.setL {W : World} {S L o : Nat} {u v : Value} {pl : List Seg} (h : OwP W S v pl) (hL : L < S) : OwP (W.setCell ⟨L, o, none⟩ u) S v pl := by
  obtain ⟨rs, h1, h2, h3⟩ := h
  exact ⟨rs, own_set h1 hL, ⟨h2.1, fun k hk => ⟨(h2.2 k hk).1, own_set (h2.2 k hk).2 hL⟩⟩, h3⟩
theorem OwQ.store {W : World} {S n F : Nat} {c : Int} {pv : Value} {p : List Int} {pl : List Seg} (h : OwQ W S n F c pv p pl) (hF : F < n) : OwP ((W.setCell ⟨S, F * 2, none⟩ (.int .i64 c)).setCell ⟨S, F * 2 + 1, none⟩ pv) S (.slice (some ⟨S, 0, none⟩) n n) (pl.set F (c, p)) := by
  obtain ⟨rs, rfl, h1, h2, h3, h4⟩ := h
  have q1 := (h1.stored (F * 2) (.int .i64 c)).1
  have q2 := (q1.stored (F * 2 + 1) pv).1
  rw [← segCells_set1 rs F c hF] at q2
  have e2 := segCells_set2 (rs.set F (c, (rs.getD F noR).2)) F pv (by simpa using hF)
  rw [getD_setR _ _ _ _ hF, if_pos rfl, List.set_set] at e2
  rw [← e2] at q2
  exact OwP_set h1 h2 h3 hF h4 (grownBy_trans (grownBy_setCell W S _ _) (grownBy_setCell _ S _ _)) q2
theorem OwP_cell {W : World} {S n F : Nat} {pl : List Seg} (h : OwP W S (.slice (some ⟨S, 0, none⟩) n n) pl) (hl : pl.length = n) (hF : F < n) :
    W.cell? ⟨S, F * 2, none⟩ = some (.int .i64 (pl.getD F noG).1) ∧ (∃ u, W.cell? ⟨S, F * 2 + 1, none⟩ = some u) ∧ W.frozen? ⟨S, F * 2, none⟩ = false ∧ W.frozen? ⟨S, F * 2 + 1, none⟩ = false := by
  obtain ⟨rs, h1, h2, h3⟩ := h
  have hrl : rs.length = n := by rw [h2.1, hl]
  rw [hrl] at h1
  obtain ⟨g1, g2⟩ := segCells_get rs F (by omega)
  rw [(h2.2 F (by omega)).1] at g1
  exact ⟨by rw [h1.cellAt (F * 2) (by omega)]; exact g1, ⟨_, by rw [h1.cellAt (F * 2 + 1) (by omega)]; exact g2⟩, h1.frozenAt _, h1.frozenAt _⟩
end Go.Proofs.YtdfnclnjnmdboaaGreatDoor

namespace Go.Proofs.YtdfnclnjnmdboaaGreatDoor
set_option linter.unusedVariables false
open Go.RowKit

theorem OwP_full {W : World} {S n : Nat} (h : W.ownsRow S 44 2 (.slice (some ⟨S, 0, none⟩) n n) n (segCells (List.replicate n noR))) : OwP W S (.slice (some ⟨S, 0, none⟩) n n) (List.replicate n noG) := by
  have hg : ∀ k, (List.replicate n noR).getD k noR = noR := fun k => by
    simp only [List.getD, List.getElem?_replicate]
    split <;> rfl
  have hg2 : ∀ k, (List.replicate n noG).getD k noG = noG := fun k => by
    simp only [List.getD, List.getElem?_replicate]
    split <;> rfl
  refine ⟨List.replicate n noR, by simpa using h, ⟨by simp, fun k _ => ?_⟩, fun i j _ _ _ => ?_⟩
  · rw [hg, hg2]; exact ⟨rfl, World.ownsRow_nil _ _ _ _⟩
  · rw [hg]; exact .inl rfl
/-- the two rows -/
def RowsC (W w : World) (L S n : Nat) (ls : List Int) (bl : List Seg) : Prop :=
  W.ownsRow w.heap.size 3 1 (.slice (some ⟨L, 0, none⟩) (n + 1) (n + 1)) (n + 1) (ls.map (Value.int .i64)) ∧ OwP W S (.slice (some ⟨S, 0, none⟩) n n) bl ∧ Below w.heap.size w W ∧ S < W.heap.size
theorem RowsC.kept {W W' w : World} {L S n : Nat} {ls : List Int} {bl : List Seg} (h : RowsC W w L S n ls bl) (hk : Below W.heap.size W W') : RowsC W' w L S n ls bl :=
  ⟨ownsRow_kept_below h.1 hk, h.2.1.kept hk, bthen h.2.2.1 hk, Nat.lt_of_lt_of_le h.2.2.2 hk.size⟩
theorem RowsC.take {W W4 w : World} {L S n F : Nat} {ls : List Int} {bl : List Seg} {x c : Int} {pv : Value} {p : List Int} (h : RowsC W w L S n ls bl) (hL : w.heap.size ≤ L) (hLS : L < S) (hbl : bl.length = n) (hF : F < n)
    (hk : Below W.heap.size W W4) (hp : OwnI W4 W.heap.size pv p) : RowsC (((W4.setCell ⟨L, F, none⟩ (.int .i64 x)).setCell ⟨S, F * 2, none⟩ (.int .i64 c)).setCell ⟨S, F * 2 + 1, none⟩ pv) w L S n (ls.set F x) (bl.set F (c, p)) := by
  obtain ⟨h1, h2, h3, h4⟩ := h
  have a1 := ownsRow_kept_below h1 hk
  have a2 := (a1.stored F (.int .i64 x)).1
  rw [← List.map_set] at a2
  have b1 := OwQ_of (c := c) h2 hbl hF hk hp (Nat.le_of_lt h4)
  have b2 := (b1.setL (o := F) (u := .int .i64 x) hLS).store hF
  have a3 := World.ownsRow.kept a2 (grownBy_trans (grownBy_setCell (W4.setCell ⟨L, F, none⟩ (.int .i64 x)) S (F * 2) (.int .i64 c)) (grownBy_setCell _ S (F * 2 + 1) pv)) (.inr (by simp [Value.ownBlock]; omega))
  refine ⟨a3, b2, (((bthen h3 hk).setCell (p := ⟨L, F, none⟩) hL _).setCell (p := ⟨S, F * 2, none⟩) (by show w.heap.size ≤ S; omega) _).setCell (p := ⟨S, F * 2 + 1, none⟩) (by show w.heap.size ≤ S; omega) _, ?_⟩
  have := hk.size
  simp [World.setCell]; omega
theorem RowsC.cells {W w : World} {L S n F c : Nat} {ls : List Int} {bl : List Seg} (h : RowsC W w L S n ls bl) (hls : ls.length = n + 1) (hbl : bl.length = n) (hF : F < n) (hc : F + c ≤ n) :
    W.cell? ⟨L, F, none⟩ = some (.int .i64 (ls.getD F 0)) ∧ W.cell? ⟨L, F + c, none⟩ = some (.int .i64 (ls.getD (F + c) 0)) ∧ W.frozen? ⟨L, F, none⟩ = false ∧ W.cell? ⟨S, F * 2, none⟩ = some (.int .i64 (bl.getD F noG).1) ∧ (∃ u, W.cell? ⟨S, F * 2 + 1, none⟩ = some u) ∧ W.frozen? ⟨S, F * 2, none⟩ = false ∧ W.frozen? ⟨S, F * 2 + 1, none⟩ = false := by
  obtain ⟨h1, h2, _, _⟩ := h
  obtain ⟨c1, c2, c3, c4⟩ := OwP_cell h2 hbl hF
  refine ⟨?_, ?_, h1.frozenAt F, c1, c2, c3, c4⟩
  · rw [h1.cellAt F (by omega)]; simp [List.getD, hls, show F < n + 1 by omega]
  · rw [h1.cellAt (F + c) (by omega)]; simp [List.getD, hls, show F + c < n + 1 by omega]

/-- the plan put together from the row of first segments -/
def PlanC (W w : World) (S n Z : Nat) (rs : List RSeg) (bl : List Seg) (r : Value) (pl2 : List Seg) (F : Nat) : Prop :=
  W.ownsRow S 44 2 (.slice (some ⟨S, 0, none⟩) n n) n (segCells rs) ∧ PolysO W S rs bl ∧ Below w.heap.size w W ∧ Z ≤ W.heap.size ∧
   ∃ rs2, W.ownsRow Z 44 2 r rs2.length (segCells rs2) ∧ PolysO W S rs2 pl2 ∧ ApartR rs2 ∧ ∀ i, i < rs2.length → ∃ j, j < F ∧ j < n ∧ rs2.getD i noR = rs.getD j noR
theorem PlanC.step {W w w6 : World} {S n Z F C : Nat} {rs : List RSeg} {bl pl2 : List Seg} {r v' pv : Value} {p : List Int} {rs2 : List RSeg}
    (hS : S < Z) (hwS : w.heap.size ≤ S) (hn : rs.length = n) (hap : ApartR rs) (hF : F < n) (hC : 1 ≤ C) (hpv : rs.getD F noR = ((C : Int), pv)) (hp : OwnI W S pv p)
    (h1 : W.ownsRow S 44 2 (.slice (some ⟨S, 0, none⟩) n n) n (segCells rs)) (h2 : PolysO W S rs bl) (h3 : Below w.heap.size w W) (h4 : Z ≤ W.heap.size)
    (q1 : W.ownsRow Z 44 2 r rs2.length (segCells rs2)) (q2 : PolysO W S rs2 pl2) (q3 : ApartR rs2) (q4 : ∀ i, i < rs2.length → ∃ j, j < F ∧ j < n ∧ rs2.getD i noR = rs.getD j noR)
    (ho : w6.ownsRow Z 44 2 v' (rs2.length + 1) (segCells rs2 ++ [.int .i64 (C : Int), pv])) (hg : W.grownBy w6 r.ownBlock) : PlanC w6 w S n Z rs bl v' (pl2 ++ [((C : Int), p)]) (F + C) := by
  have q1S := ownsRow_mono q1 (Nat.le_of_lt hS)
  have hapn : ∀ k, k < rs2.length → (rs2.getD k noR).2.ownBlock = none ∨ (rs2.getD k noR).2.ownBlock ≠ pv.ownBlock := by
    intro k hk
    obtain ⟨j, hj1, hj2, hj3⟩ := q4 k hk
    have := hap j F (by omega) (by omega) (by omega)
    rw [hpv] at this
    rw [hj3]; exact this
  obtain ⟨r1, r2, r3⟩ := OwP_snocA q1S q2 q3 hapn hp (ownsRow_mono ho (Nat.le_of_lt hS)) hg
  refine ⟨World.ownsRow.kept h1 hg ?_, h2.grown q1S hg, h3.grown hg h3.size (fun j hj => by have := (q1.lt j hj).1; omega), Nat.le_trans h4 hg.size, rs2 ++ [((C : Int), pv)], ?_, r2, r3, fun i hi => ?_⟩
  · refine .inr (fun e => ?_)
    have := (q1.lt S e.symm).1
    omega
  · rw [List.length_append, segCells_append]; exact ho
  · rw [getD_snocR]
    by_cases hi2 : i < rs2.length
    · rw [if_pos hi2]
      obtain ⟨j, hj1, hj2, hj3⟩ := q4 i hi2
      exact ⟨j, by omega, hj2, hj3⟩
    · simp at hi
      rw [if_neg hi2, if_pos (by omega)]
      exact ⟨F, by omega, hF, hpv.symm⟩
set_option maxRecDepth 20000 in
set_option maxHeartbeats 3200000 in
theorem c_impl_CheapestPlan (v : Value) (xs : List Int) (d a b : Int) (w : World) (ha : RdI w v xs) (hcap : CapOk v) (hx : xs.length ≤ 1099511627776) :
    Calls Tryz.prog 18 #[v, (.int .i64 (d)), (.int .i64 (a)), (.int .i64 (b))] w (FreshPB w (cpL xs d a b) (cpB xs d a b)) := by
  have hsm := c_smallTable v xs w ha hx
  cases hv : cpB xs d a b
  · have E : Hid (cpL xs d a b = []) := if_neg (by rw [hv]; decide)
    have hd : smallB xs = false ∨ (smallB xs = true ∧ inB d 0 6 = false) ∨ (smallB xs = true ∧ inB d 0 6 = true ∧ inB a 0 1000 = false) ∨ (smallB xs = true ∧ inB d 0 6 = true ∧ inB a 0 1000 = true ∧ inB b 0 1000 = false) := by
      rcases cpB_f hv with h | h | ⟨h, h2, h3⟩
      · exact .inl h
      · exact .inr (.inl h)
      · cases h4 : inB a 0 1000
        · exact .inr (.inr (.inl ⟨h, h2, rfl⟩))
        · exact .inr (.inr (.inr ⟨h, h2, rfl, by simpa [h4] using h3⟩))
    clear hv ha hcap hx
    have HF0 : Hid (∀ W, Below w.heap.size w W → FreshPB w (cpL xs d a b) false (.returned (.tuple #[.slice none 0 0, .bool false])) W) := fun W h => ⟨_, rfl, by rw [E.out]; exact OwP.nil _ _, h⟩
    rcases hd with h | ⟨h, h2⟩ | ⟨h, h2, h3⟩ | ⟨h, h2, h3, h4⟩
    all_goals
      rw [h] at hsm
      clear h
      go_enter Tryz.func18, Tryz.ntmps18
      go_wp2_with fail
      refine hsm.mono ?_
      rintro e w1 ⟨rfl, hB1⟩
      clear hsm
    · go_wp2
      go_ret2
      exact HF0.out _ hB1
    · go_wp2_with (go_at_call 41; refine (c_degreeValid _ _).mono ?_; rw [h2]; rintro e w' ⟨rfl, rfl⟩)
      go_ret2
      exact HF0.out _ hB1
    · have hc1 := c_costValid a w1
      rw [h3] at hc1
      go_wp2_with (go_at_call 41; refine (c_degreeValid _ _).mono ?_; rw [h2]; rintro e w' ⟨rfl, rfl⟩)
      refine hc1.mono ?_
      rintro e w2 ⟨rfl, rfl⟩
      go_wp2
      go_ret2
      exact HF0.out _ hB1
    · have hc1 := c_costValid a w1
      have hc2 := c_costValid b w1
      rw [h3] at hc1
      rw [h4] at hc2
      go_wp2_with (go_at_call 41; refine (c_degreeValid _ _).mono ?_; rw [h2]; rintro e w' ⟨rfl, rfl⟩)
      refine hc1.mono ?_
      rintro e w2 ⟨rfl, rfl⟩
      go_wp2_with fail
      refine hc2.mono ?_
      rintro e w3 ⟨rfl, rfl⟩
      go_wp2
      go_ret2
      exact HF0.out _ hB1
  · have E : Hid (cpL xs d a b = cp d a b xs) := if_pos hv
    obtain ⟨hv1, hv2, hv3, hv4⟩ := cpB_t hv
    rw [hv1] at hsm
    obtain ⟨hsp, h1⟩ := smallB_iff.1 hv1
    have HD : Hid (0 ≤ d ∧ d ≤ 6) := inB_iff.1 hv2
    have hba : 0 ≤ a ∧ a ≤ 1000 := inB_iff.1 hv3
    have hbb : 0 ≤ b ∧ b ≤ 1000 := inB_iff.1 hv4
    have hl60 := hsp.2
    have HX := hidd ha
    have HSP := hidd hsp
    have HC1 := hidd (fun W => c_costValid a W)
    have HC2 := hidd (fun W => c_costValid b W)
    rw [hv3] at HC1
    rw [hv4] at HC2
    obtain ⟨A0, cap, rfl⟩ := RdI_form ha
    have hcc : xs.length ≤ cap := hcap _ _ _ rfl
    clear hv hv1 hv3 hv4 ha h1 hsp hcap hx
    go_enter Tryz.func18, Tryz.ntmps18
    go_wp2_with fail
    refine hsm.mono ?_
    rintro e w1 ⟨rfl, hB1⟩
    clear hsm
    go_wp2_with (go_at_call 41; refine (c_degreeValid _ _).mono ?_; rw [hv2]; rintro e w' ⟨rfl, rfl⟩)
    refine (HC1.out w1).mono ?_
    rintro e w2 ⟨rfl, rfl⟩
    go_wp2_with fail
    refine (HC2.out w1).mono ?_
    rintro e w3 ⟨rfl, rfl⟩
    clear HC1 HC2 hv2
    go_wp2_with (first | (at_make; refine mkfull 32 3 Tryz.underlying32 infoInt rfl (by decide) rfl _ _ rfl (xs.length + 1) rfl rfl (by push_cast; rfl) (by push_cast; rfl) (by omega) ?_; intro w2 ho2 hB2 hz2) | (at_make; refine mkfullS 23 44 Tryz.underlying23 infoSeg (by decide) rfl _ _ rfl xs.length rfl rfl rfl rfl (by omega) ?_; intro w3 ho3 hB3 hz3))
    have hB3' : Below w.heap.size w w3 := bthen hB1 ((bthen hB2 (hB3.mono (Nat.le_refl _))))
    have hL : w.heap.size ≤ w1.heap.size := hB1.size
    have H0 : Hid (RowsC w3 w w1.heap.size w2.heap.size xs.length (bsT d a b xs xs.length) (bestL d a b xs xs.length)) := by
      refine ⟨?_, ?_, hB3', hz3⟩
      · have q := ownsRow_kept_below (ownsRow_mono ho2 hL) hB3
        rw [bsT_start, List.map_replicate]
        exact q
      · rw [bestL_start]
        exact OwP_full ho3
    clear ho2 ho3 hB3' hB1 hB2 hB3 hz3
    generalize w1.heap.size = L at *
    generalize w2.heap.size = S at *
    go_loopw [12, 13, 14, 15, 16] (fun i _ _ _ _ wr => ∃ (z : Int) (F : Nat), i = .int .i64 z ∧ z + 1 = (F : Int) ∧ F ≤ xs.length ∧ Hid (RowsC wr w L S xs.length (bsT d a b xs F) (bestL d a b xs F))) (fun i _ _ _ _ _ => (intOf i + 1).toNat)
    case atStart => exact ⟨_, xs.length, rfl, by omega, Nat.le_refl _, H0⟩
    case round =>
      obtain ⟨z, F, rfl, hzF, hF, HR⟩ := hrel
      clear H0
      by_cases hz : 0 ≤ z
      · obtain ⟨I, rfl⟩ : ∃ I : Nat, z = I := ⟨z.toNat, by omega⟩
        obtain rfl : F = I + 1 := by omega
        clear hzF hz
        have hI : I < xs.length := by omega
        have HR0 : Hid (RowsC wr w L S xs.length (bsV d a b xs I 0) (bestI d a b xs I 0)) := by
          show RowsC _ _ _ _ _ _ _
          rw [bsV_zero _ _ _ _ _ (by omega), bestI_zero _ _ _ _ _ hI]
          exact HR.out
        have HLG : Hid ((∀ c, 1 ≤ c → c ≤ lg (xs.drop I) d → runB ((xs.drop I).take c) d = true) ∧ (∀ c, 1 ≤ c → c ≤ xs.length - I → runB ((xs.drop I).take c) d = true → c ≤ lg (xs.drop I) d) ∧ lg (xs.drop I) d ≤ xs.length - I) := by
          refine ⟨fun c h1 h2 => lg_run h1 h2, fun c h1 h2 h3 => lg_max (HSP.out.drop I) HD.out.2 h1 (by simp; omega) h3, ?_⟩
          have := lg_le (xs.drop I) d
          simpa using this
        have HCH : Hid (1 ≤ lg (xs.drop I) d ∧ ch d a b (xs.drop I) = lst (gC d a b (xs.drop I)) (mn (gC d a b (xs.drop I)) (lg (xs.drop I) d)) (lg (xs.drop I) d) ∧ bs d a b (xs.drop I) = mn (gC d a b (xs.drop I)) (lg (xs.drop I) d) ∧ ch d a b (xs.drop I) ≠ 0 ∧ ∀ e, gC d a b (xs.drop I) e ≤ 1099511627776) := by
          have q := ch_facts (d := d) (a := a) (b := b) HD.out.1 HD.out.2 hba hbb (HSP.out.drop I) (by simp; omega)
          have q2 := bs_cons d a b (drop_ne hI)
          refine ⟨by omega, by rw [← q2]; rfl, q2, by omega, fun e => ?_⟩
          have := gC_bd (d := d) HD.out.1 HD.out.2 hba hbb (HSP.out.drop I) e
          omega
        clear HR
        go_wp2
        go_loopw [13, 14, 15, 16] (fun j _ _ _ W => ∃ (c k : Nat) (u : Int), j = .int .i64 c ∧ I + c ≤ xs.length ∧ Hid (InvD (gC d a b (xs.drop I)) (lg (xs.drop I) d) c u k) ∧ Hid (RowsC W w L S xs.length (bsV d a b xs I u) (bestI d a b xs I k))) (fun j _ _ _ _ => (intOf j).toNat)
        case atStart => exact ⟨xs.length - I, 0, 0, by go_num, by omega, .inl ⟨HLG.out.2.2, rfl, rfl⟩, HR0⟩
        case round =>
          obtain ⟨c, k, u, rfl, hIc, HI, HR⟩ := hrel
          clear HR0
          by_cases hc0 : 0 < c
          · obtain ⟨A, g1, g2⟩ := sl_lh A0 xs.length cap I (I + c) (by omega) (by omega) hcc
            have hr := g2 w xs rfl HX.out
            rw [take_drop_lh] at hr
            have q1 : I + c - I = c := by omega
            have q2 : ((I + c : Nat) : Int) = (I : Int) + (c : Int) := by push_cast; rfl
            rw [q1] at hr g1
            rw [q2] at g1
            have HC := hidd (c_runOf _ ((xs.drop I).take c) d wr (hr.kept HR.out.2.2.1) (CapOk_of (by omega)) (by simp; omega))
            have hle' : (I : Int) + (c : Int) ≤ (xs.length : Int) := by omega
            have HE1 : Hid (c - 1 + 1 = c) := by show _ = _; omega
            clear g2 hr q1 q2
            cases hrb : runB ((xs.drop I).take c) d
            · have HI2 : Hid (InvD (gC d a b (xs.drop I)) (lg (xs.drop I) d) (c - 1) u k) := by
                show InvD _ _ _ _ _
                refine InvD.skip (by rw [HE1.out]; exact HI.out) ?_
                rcases Nat.lt_or_ge (lg (xs.drop I) d) c with h | h
                · omega
                · have := HLG.out.1 c hc0 h
                  rw [hrb] at this; cases this
              rw [hrb] at HC
              clear hrb HI
              go_wp2_with fail
              refine HC.out.mono ?_
              rintro e w4 ⟨uu, rfl, hu, hB4⟩
              have HR2 := hidd (HR.out.kept hB4)
              clear hu hB4 HR g1 HC
              go_wp2
              go_roundw
              case rel => exact ⟨c - 1, k, u, by go_num, by omega, HI2, HR2⟩
              case measure => simp [intOf]; omega
            · have hcl := HLG.out.2.1 c hc0 (by omega) hrb
              have hbd := bs_bd (d := d) (a := a) (b := b) HD.out.1 HD.out.2 hba hbb _ ((xs.drop I).drop c) (Nat.le_refl _) ((HSP.out.drop I).drop c)
              have hl60' := ((HSP.out.drop I).drop c).2
              have hrl := runL_len ((xs.drop I).take c) d
              have HCOST : Hid (gC d a b (xs.drop I) c = a + b * ((runL ((xs.drop I).take c) d).length : Int) + bs d a b ((xs.drop I).drop c)) := rfl
              have HNEW : Hid (k = 0 ∨ gC d a b (xs.drop I) c < u → InvD (gC d a b (xs.drop I)) (lg (xs.drop I) d) (c - 1) (gC d a b (xs.drop I) c) c) := by
                show _ → _
                intro h
                have q := InvD.new (c := c - 1) (by rw [HE1.out]; exact HI.out) (by omega) (by rw [HE1.out]; exact h)
                rwa [HE1.out] at q
              have HKEEP : Hid (k ≠ 0 → ¬ gC d a b (xs.drop I) c < u → InvD (gC d a b (xs.drop I)) (lg (xs.drop I) d) (c - 1) u k) := by
                show _ → _ → _
                intro h h2
                exact InvD.keep (by rw [HE1.out]; exact HI.out) (by omega) h (by rw [HE1.out]; exact h2)
              obtain ⟨Y, hY⟩ : ∃ Y, bs d a b ((xs.drop I).drop c) = Y := ⟨_, rfl⟩
              obtain ⟨P, hP⟩ : ∃ P, runL ((xs.drop I).take c) d = P := ⟨_, rfl⟩
              have hk1 : ∀ W, RowsC W w L S xs.length (bsV d a b xs I u) (bestI d a b xs I k) → W.cell? ⟨L, I, none⟩ = some (.int .i64 u) ∧ W.cell? ⟨L, I + c, none⟩ = some (.int .i64 Y) ∧ W.frozen? ⟨L, I, none⟩ = false ∧ W.cell? ⟨S, I * 2, none⟩ = some (.int .i64 (k : Int)) ∧ (∃ u, W.cell? ⟨S, I * 2 + 1, none⟩ = some u) ∧ W.frozen? ⟨S, I * 2, none⟩ = false ∧ W.frozen? ⟨S, I * 2 + 1, none⟩ = false := by
                intro W h
                have q := h.cells (F := I) (c := c) (bsV_len _ _ _ _ _ _) (bestI_len _ _ _ _ _ _) hI hIc
                rw [bsV_at0 (by omega), bsV_at hc0 hIc, hY, bestI_at hI, segK_c] at q
                exact q
              have HK1 := hidd hk1
              rw [hY] at HCOST hbd
              rw [hP] at HCOST hrl HC
              rw [hrb] at HC
              have HTK : Hid (∀ W W4 pv, RowsC W w L S xs.length (bsV d a b xs I u) (bestI d a b xs I k) → Below W.heap.size W W4 → OwnI W4 W.heap.size pv P → RowsC (((W4.setCell ⟨L, I, none⟩ (.int .i64 (gC d a b (xs.drop I) c))).setCell ⟨S, I * 2, none⟩ (.int .i64 (c : Int))).setCell ⟨S, I * 2 + 1, none⟩ pv) w L S xs.length (bsV d a b xs I (gC d a b (xs.drop I) c)) (bestI d a b xs I c)) := by
                show ∀ W W4 pv, _
                intro W W4 pv h1 h2 h3
                have q := h1.take (F := I) (x := gC d a b (xs.drop I) c) (c := (c : Int)) (p := P) hL hz2 (bestI_len _ _ _ _ _ _) hI h2 h3
                rw [bsV_set, ← hP, bestI_set _ _ _ _ _ _ (by omega)] at q
                exact q
              have hp0 : 0 ≤ b * (P.length : Int) := Int.mul_nonneg hbb.1 (by omega)
              have hp1 : b * (P.length : Int) ≤ 1000 * 7 := Int.mul_le_mul hbb.2 (by omega) (by omega) (by omega)
              have hY0 := hbd.1
              have hY1 : Y ≤ 480000 := by have := hbd.2; omega
              have j0 : (0 : Int) ≤ (I : Int) := by omega
              have j1 : (I : Int) + (c : Int) < (xs.length : Int) + 1 := by omega
              have j2 : ((I : Int) + (c : Int)).toNat = I + c := by omega
              have j3 : (0 : Int) ≤ (I : Int) + (c : Int) := by omega
              have j4 : (I : Int) < (xs.length : Int) + 1 := by omega
              have j5 : (I : Int) < (xs.length : Int) := by omega
              clear hrb hY hP hk1 hbd hl60' hcl HI
              go_wp2_with fail
              refine HC.out.mono ?_
              rintro e w4 ⟨uu, rfl, hu, hB4⟩
              obtain ⟨pa, pc, rfl⟩ := RdI_form (owns_RdI hu)
              have HR2 := hidd (HR.out.kept hB4)
              have HT4 := hidd (HTK.out wr w4 _ HR.out hB4 hu)
              obtain ⟨e1, e2, e3, e4, ⟨y, e5⟩, e6, e7⟩ := HK1.out w4 HR2.out
              clear hu hB4 HR g1 HC HTK
              by_cases hcase : k = 0 ∨ a + b * (P.length : Int) + Y < u
              · have HI2 : Hid (InvD (gC d a b (xs.drop I)) (lg (xs.drop I) d) (c - 1) (gC d a b (xs.drop I) c) c) := HNEW.out (by rw [HCOST.out]; exact hcase)
                have HT5 := HT4
                rw [HCOST.out] at HT5 HI2
                clear HCOST HNEW HKEEP HK1 HT4
                by_cases hk0 : k = 0
                · subst hk0
                  clear hcase
                  go_wp2
                  go_roundw
                  case rel => exact ⟨c - 1, c, _, by go_num, by omega, HI2, HT5⟩
                  case measure => simp [intOf]; omega
                · have hkb : ((k : Int) == 0) = false := by simp; omega
                  have hlt : a + b * (P.length : Int) + Y < u := by omega
                  clear hcase hk0
                  go_wp2
                  go_roundw
                  case rel => exact ⟨c - 1, c, _, by go_num, by omega, HI2, HT5⟩
                  case measure => simp [intOf]; omega
              · have hk0 : k ≠ 0 := fun h => hcase (.inl h)
                have hlt : ¬ a + b * (P.length : Int) + Y < u := fun h => hcase (.inr h)
                have hkb : ((k : Int) == 0) = false := by simp; omega
                have HI2 : Hid (InvD (gC d a b (xs.drop I)) (lg (xs.drop I) d) (c - 1) u k) := HKEEP.out hk0 (by rw [HCOST.out]; omega)
                clear HCOST HNEW HKEEP HK1 HT4 hcase hk0 e3 e5 e6 e7
                go_wp2
                go_roundw
                case rel => exact ⟨c - 1, k, u, by go_num, by omega, HI2, HR2⟩
                case measure => simp [intOf]; omega
          · have HO : Hid (RowsC wr w L S xs.length (bsT d a b xs I) (bestL d a b xs I)) := by
              obtain rfl : c = 0 := by omega
              obtain ⟨q1, q2⟩ := HI.out.fin HCH.out.1 HCH.out.2.2.2.2
              have q := HR.out
              rw [q1, q2, ← HCH.out.2.2.1, bsV_end, HCH.out.2.2.1, ← HCH.out.2.1, bestI_end _ _ _ _ _ hI HCH.out.2.2.2.1] at q
              exact q
            clear HI HR
            go_wp2
            go_roundw
            case rel => exact ⟨_, I, rfl, by omega, by omega, HO⟩
            case measure => (simp [intOf] <;> omega)
      · obtain rfl : F = 0 := by omega
        clear hzF hF
        obtain ⟨hrow, ⟨rs, h1, h2, h3⟩, hBw, hSw⟩ := HR.out
        have hrl : rs.length = xs.length := by rw [h2.1, bestL_len]
        have HP0 : Hid (PlanC wr w S xs.length wr.heap.size rs (bestL d a b xs 0) (.slice none 0 0) [] 0) :=
          ⟨by rw [hrl] at h1; exact h1, h2, hBw, Nat.le_refl _, [], World.ownsRow_nil _ _ _ _, ⟨rfl, fun k hk => by simp at hk⟩, ApartR.nil, fun i hi => by simp at hi⟩
        have HAP := hidd h3
        clear hrow h1 h2 h3 hBw HR
        generalize wr.heap.size = Z at *
        go_wp2
        go_loopw [17, 18] (fun r i W => ∃ (F : Nat) (pl2 : List Seg), i = .int .i64 F ∧ F ≤ xs.length ∧ pl2.length ≤ F ∧ Hid (cp d a b xs = pl2 ++ cp d a b (xs.drop F)) ∧ Hid (PlanC W w S xs.length Z rs (bestL d a b xs 0) r pl2 F)) (fun _ i _ => xs.length - (intOf i).toNat)
        case atStart => exact ⟨0, [], rfl, by omega, by simp, rfl, HP0⟩
        case round =>
          obtain ⟨F, pl2, rfl, hF, hpl, HG, HP⟩ := hrel
          clear HP0
          by_cases hlt : F < xs.length
          · obtain ⟨h1, h2, h3, h4, rs2, q1, q2, q3, q4⟩ := HP.out
            have hch := ch_facts (d := d) (a := a) (b := b) HD.out.1 HD.out.2 hba hbb (HSP.out.drop F) (by simp; omega)
            have hlg := lg_le (xs.drop F) d
            rw [List.length_drop] at hlg
            have HCC := hidd (cp_cons (d := d) (a := a) (b := b) (drop_ne hlt) hch.1)
            have hat := h2.2 F (by omega)
            rw [bestL_at (Nat.zero_le F) hlt] at hat
            obtain ⟨hat1, hat2⟩ := hat
            have hat1 : (rs.getD F noR).1 = (ch d a b (xs.drop F) : Int) := hat1
            have hat2 : OwnI wr S (rs.getD F noR).2 (runL ((xs.drop F).take (ch d a b (xs.drop F))) d) := hat2
            obtain ⟨C, hC⟩ : ∃ C, ch d a b (xs.drop F) = C := ⟨_, rfl⟩
            rw [hC] at hch HCC hat1 hat2
            obtain ⟨P, hP⟩ : ∃ P, runL ((xs.drop F).take C) d = P := ⟨_, rfl⟩
            rw [hP] at HCC hat2
            obtain ⟨pv, hpv⟩ : ∃ pv, (rs.getD F noR).2 = pv := ⟨_, rfl⟩
            rw [hpv] at hat2
            have HRS : Hid (rs.getD F noR = ((C : Int), pv)) := Prod.ext hat1 hpv
            have hC1 : 1 ≤ C := hch.1
            have hFC : F + C ≤ xs.length := by have := hch.2.1; omega
            obtain ⟨g1, g2⟩ := segCells_get rs F (by omega)
            rw [hat1] at g1
            rw [hpv] at g2
            have e1 : wr.cell? ⟨S, F * 2, none⟩ = some (.int .i64 (C : Int)) := by rw [h1.cellAt (F * 2) (by omega)]; exact g1
            have e2 : wr.cell? ⟨S, F * 2 + 1, none⟩ = some pv := by rw [h1.cellAt (F * 2 + 1) (by omega)]; exact g2
            have hr2 : rs2.length ≤ 60 := by have := q2.1; omega
            obtain ⟨pa, pc, rfl⟩ := RdI_form (owns_RdI hat2)
            have HH := hidd h1
            have HH2 := hidd h2
            have HH3 := hidd h3
            have HQ2 := hidd q2
            have HQ3 := hidd q3
            have HQ4 := hidd q4
            have HAT := hidd hat2
            have HRL := hidd hrl
            have i1 : (0 : Int) ≤ (F : Int) := by omega
            have i2 : (F : Int) < (xs.length : Int) := by omega
            clear h1 h2 h3 q2 q3 q4 hat2 hat1 hpv hP hC hch g1 g2 HP hrl
            go_wp2_with (at_builtin; refine appN 23 44 Tryz.underlying23 infoSeg rfl (by decide) (by decide) rfl _ _ rfl Z _ _ _ rfl (q1.alloc _) _ _ _ rfl (RdN_seg wr (C : Int) (.slice pa _ pc)) (one_seg (C : Int) pa _ pc) ?c1 ?c2 ?_)
            case c1 => omega
            case c2 => simp; omega
            intro v' w6 ho6 hg6 _
            have hal : Below wr.heap.size wr (wr.alloc (.cells #[(.int .i64 ((C : Int))), .slice pa P.length pc] 44)) := (Below.refl _ _).alloc (Nat.le_refl _) _
            have HPN : Hid (PlanC w6 w S xs.length Z rs (bestL d a b xs 0) v' (pl2 ++ [((C : Int), P)]) (F + C)) :=
              PlanC.step hSw (by omega) HRL.out HAP.out hlt hC1 HRS.out (ownsRow_kept_below HAT.out hal) (HH.out.alloc _) (HH2.out.kept hal) (bthen HH3.out hal) (by simp; omega) (q1.alloc _) (HQ2.out.kept hal) HQ3.out HQ4.out ho6 hg6
            have HG' : Hid (cp d a b xs = (pl2 ++ [((C : Int), P)]) ++ cp d a b (xs.drop (F + C))) := by
              show _ = _
              rw [HG.out, HCC.out, List.append_assoc, List.drop_drop]; rfl
            have k0 : w6.cell? ⟨S, F * 2, none⟩ = some (.int .i64 (C : Int)) := by
              rw [HPN.out.1.cellAt (F * 2) (by omega)]
              obtain ⟨g1, _⟩ := segCells_get rs F (by rw [HRL.out]; exact hlt)
              rw [HRS.out] at g1; exact g1
            clear ho6 hg6 q1 hal e1 e2
            go_wp2
            go_roundw
            case rel => exact ⟨F + C, _, by go_num, hFC, by simp; omega, HG', HPN⟩
            case measure => simp [intOf]; omega
          · have HF : Hid (FreshPB w (cpL xs d a b) true (.returned (.tuple #[u17, .bool true])) wr) := by
              have hy0 : xs.drop F = [] := List.drop_eq_nil_of_le (by omega)
              have := HG.out
              rw [hy0, cp_nil, List.append_nil] at this
              obtain ⟨h1, h2, h3, h4, rs2, q1, q2, q3, q4⟩ := HP.out
              refine ⟨_, rfl, ?_, h3⟩
              rw [E.out, this]
              exact ⟨rs2, ownsRow_mono q1 (by omega), ⟨q2.1, fun k hk => ⟨(q2.2 k hk).1, ownsRow_mono (q2.2 k hk).2 (by omega)⟩⟩, q3⟩
            clear HP
            go_wp2
            go_ret2
            exact HF.out
end Go.Proofs.YtdfnclnjnmdboaaGreatDoor
