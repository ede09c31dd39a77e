/- Lemmas and contracts for WholePlan (Plan4 Plan5): plain words on memory, contracts of the functions that the law reaches. No condition but what each states. -/
import Derived.Test.YtdfnclnjnmdboaaGreatDoorMWholePlanPlan1
import Derived.Test.YtdfnclnjnmdboaaGreatDoorMWholePlanAppN
namespace Go.Proofs.YtdfnclnjnmdboaaGreatDoor
set_option linter.unusedVariables false
open Go.RowKit

/-- the values of a plan -/
def plV : List Seg → List Int
  | [] => []
  | s :: l => vals s.2 s.1.toNat ++ plV l
theorem plV_append : ∀ a b : List Seg, plV (a ++ b) = plV a ++ plV b
  | [], _ => rfl
  | s :: a, b => by simp [plV, plV_append a b]
theorem plV_take_succ (pl : List Seg) (k : Nat) (h : k < pl.length) : plV (pl.take (k + 1)) = plV (pl.take k) ++ vals (pl.getD k noG).2 (pl.getD k noG).1.toNat := by
  rw [take_succG pl k h, plV_append]; simp [plV]
theorem plV_len : ∀ pl : List Seg, pl.all cntB = true → ((plV pl).length : Int) = totG pl
  | [], _ => rfl
  | s :: l, h => by
    simp only [List.all_cons, Bool.and_eq_true] at h
    have h1 := plV_len l h.2
    have h2 := cntB_iff.1 h.1
    simp only [plV, totG, List.length_append, vals_len]
    omega
/-- segments that can be evaluated -/
def valOk (pl : List Seg) : Prop := ∀ s ∈ pl, 1 ≤ s.1 ∧ s.1 ≤ 60 ∧ polyB s.2 = true
theorem valOk_of {pl : List Seg} (h : pl.all segB = true) : valOk pl := fun s hs => by
  have := segB_iff (List.all_eq_true.1 h s hs)
  exact ⟨this.1, this.2.1, this.2.2.1⟩
theorem valOk.get {pl : List Seg} (h : valOk pl) {k : Nat} (hk : k < pl.length) : 1 ≤ (pl.getD k noG).1 ∧ (pl.getD k noG).1 ≤ 60 ∧ polyB (pl.getD k noG).2 = true := h _ (by simp [List.getD, hk])
theorem valOk.take_len {pl : List Seg} (h : valOk pl) (k : Nat) : (plV (pl.take k)).length ≤ k * 60 := by
  have hc : (pl.take k).all cntB = true := List.all_eq_true.2 fun s hs => by
    have := h s (List.mem_of_mem_take hs)
    exact cntB_iff.2 ⟨this.1, this.2.1⟩
  have h1 := plV_len _ hc
  have h2 := (tot_bd _ hc).2
  have h3 : (pl.take k).length ≤ k := List.length_take_le _ _
  omega
theorem OwnI_app' {w : World} {base : Nat} {v : Value} {n m : Nat} {xs ys : List Int} (hn : n = xs.length) (hm : m = ys.length) (h : w.ownsRow base 3 1 v (n + m) (xs.map (Value.int .i64) ++ ys.map (Value.int .i64))) : OwnI w base v (xs ++ ys) := by
  subst hn hm; unfold OwnI; simpa using h
theorem RdN_ints {w : World} {u : Value} {xs : List Int} (h : RdI w u xs) : RdN w 1 u xs.length (xs.map (Value.int .i64)) := by
  have := RdN_of_RdL h
  rwa [List.length_map] at this

theorem keepG {w wa wb : World} {b o o' : Nat} {v0 v1 : Value} {r : Option Nat} (hb : b < w.heap.size) (h : Below w.heap.size w wa ∧ wa.cell? ⟨b, o, none⟩ = some v0 ∧ wa.cell? ⟨b, o', none⟩ = some v1) (k : wa.grownBy wb r) (hr : ∀ j, r = some j → w.heap.size ≤ j) :
    Below w.heap.size w wb ∧ wb.cell? ⟨b, o, none⟩ = some v0 ∧ wb.cell? ⟨b, o', none⟩ = some v1 := by
  obtain ⟨h0, h1, h2⟩ := h
  have hs := h0.size
  have h3 : wb.heap[b]? = wa.heap[b]? := k.block b (by omega) (fun e => by have := hr b e.symm; omega)
  refine ⟨h0.grown k hs hr, ?_, ?_⟩
  · rw [World.cell?_of_block (w := wa) (a := ⟨b, o, none⟩) h3]; exact h1
  · rw [World.cell?_of_block (w := wa) (a := ⟨b, o', none⟩) h3]; exact h2
/-- the table of a plan, if it is one -/
def pvL (pl : List Seg) : List Int := if planB pl = true then plV pl else []
/-- the number of entries of a plan -/
def plN (pl : List Seg) : Int := if planB pl = true then totG pl else -1
def degM : List Seg → Int
  | [] => -1
  | s :: l => max (degP s.2) (degM l)
/-- the greatest degree of a plan -/
def pdF (pl : List Seg) : Int := if planB pl = true then degM pl else -2
theorem degM_append : ∀ a b : List Seg, degM (a ++ b) = max (degM a) (degM b)
  | [], b => by
    have : ∀ l : List Seg, -1 ≤ degM l := fun l => by
      induction l with
      | nil => simp [degM]
      | cons s l ih => simp only [degM]; omega
    have := this b
    simp [degM]; omega
  | s :: a, b => by simp only [List.cons_append, degM, degM_append a b]; omega
theorem degM_take_succ (pl : List Seg) (k : Nat) (h : k < pl.length) : degM (pl.take (k + 1)) = max (degM (pl.take k)) (degP (pl.getD k noG).2) := by
  rw [take_succG pl k h, degM_append]
  have : ∀ l : List Seg, -1 ≤ degM l := fun l => by
    induction l with
    | nil => simp [degM]
    | cons s l ih => simp only [degM]; omega
  have := this (pl.take k)
  simp only [degM]; omega
end Go.Proofs.YtdfnclnjnmdboaaGreatDoor

namespace Go.Proofs.YtdfnclnjnmdboaaGreatDoor
set_option linter.unusedVariables false
open Go.RowKit

theorem infoSeg : (Tryz.prog.info? 44).map (fun i => (i.zero, i.size, i.bytes)) = some (some (.agg #[.int .i64 0, .slice none 0 0]), 2, 32) := by kernel_rfl
/-- the rows of the polynomials lie apart from one another -/
def ApartR (rs : List RSeg) : Prop := ∀ i j, i < rs.length → j < rs.length → i ≠ j → (rs.getD i noR).2.ownBlock = none ∨ (rs.getD i noR).2.ownBlock ≠ (rs.getD j noR).2.ownBlock
/-- the polynomials are rows of the call's own -/
def PolysO (w : World) (base : Nat) (rs : List RSeg) (pl : List Seg) : Prop :=
  rs.length = pl.length ∧ ∀ k, k < rs.length → (rs.getD k noR).1 = (pl.getD k noG).1 ∧ OwnI w base (rs.getD k noR).2 (pl.getD k noG).2
/-- v is a plan of the call's own -/
def OwP (w : World) (base : Nat) (v : Value) (pl : List Seg) : Prop :=
  ∃ rs, w.ownsRow base 44 2 v rs.length (segCells rs) ∧ PolysO w base rs pl ∧ ApartR rs
theorem PolysO.kept {w w' : World} {base : Nat} {rs : List RSeg} {pl : List Seg} (h : PolysO w base rs pl) (hb : Below w.heap.size w w') : PolysO w' base rs pl :=
  ⟨h.1, fun k hk => ⟨(h.2 k hk).1, ownsRow_kept_below (h.2 k hk).2 hb⟩⟩
theorem OwP.kept {w w' : World} {base : Nat} {v : Value} {pl : List Seg} (h : OwP w base v pl) (hb : Below w.heap.size w w') : OwP w' base v pl :=
  let ⟨rs, h1, h2, h3⟩ := h; ⟨rs, ownsRow_kept_below h1 hb, h2.kept hb, h3⟩
theorem OwP.mono {w : World} {base base' : Nat} {v : Value} {pl : List Seg} (h : OwP w base v pl) (hb : base' ≤ base) : OwP w base' v pl :=
  let ⟨rs, h1, h2, h3⟩ := h; ⟨rs, ownsRow_mono h1 hb, ⟨h2.1, fun k hk => ⟨(h2.2 k hk).1, ownsRow_mono (h2.2 k hk).2 hb⟩⟩, h3⟩
theorem OwP.nil (w : World) (base : Nat) : OwP w base (.slice none 0 0) [] := ⟨[], World.ownsRow_nil _ _ _ _, ⟨rfl, fun k hk => by simp at hk⟩, fun i j hi => by simp at hi⟩
theorem OwP.made (w : World) (base : Nat) (h : base ≤ w.heap.size) : OwP (w.alloc (.cells #[] 44)) base (.slice (some ⟨w.heap.size, 0, none⟩) 0 0) [] :=
  ⟨[], World.ownsRow_made w #[] 0 h (by decide) rfl, ⟨rfl, fun k hk => by simp at hk⟩, fun i j hi => by simp at hi⟩
theorem owns_RdR {w : World} {base e : Nat} {v : Value} {rs : List RSeg} (h : w.ownsRow base e 2 v rs.length (segCells rs)) : RdR w v rs := by
  have hlt := h.lt
  obtain ⟨h1, h2⟩ := h
  rcases h2 with ⟨rfl, h0⟩ | ⟨g, cap, cur, rfl, hg, hh, h3, h4, h5, h6⟩
  · have : rs = [] := List.eq_nil_of_length_eq_zero h0
    subst this
    exact ⟨none, 0, rfl, Nat.le_refl _, .inl rfl⟩
  · refine ⟨_, cap, rfl, h3, .inr ⟨g, 0, rfl, (hlt g rfl).2, fun i hi => ?_⟩⟩
    have : w.cell? ⟨g, 0 + i, none⟩ = cur[i]? := by simp [World.cell?, hh]
    rw [this]
    have h6' : (segCells rs)[i]? = (cur.toList.take (rs.length * 2))[i]? := by rw [h6]
    rw [h6', List.getElem?_take]
    simp [hi]
theorem PolysO.polys {w : World} {base : Nat} {rs : List RSeg} {pl : List Seg} (h : PolysO w base rs pl) : Polys w rs pl :=
  ⟨h.1, fun k hk => ⟨(h.2 k hk).1, owns_RdI (h.2 k hk).2, owns_CapOk (h.2 k hk).2⟩⟩
theorem OwP.rd {w : World} {base : Nat} {v : Value} {pl : List Seg} (h : OwP w base v pl) : RdP w v pl :=
  let ⟨rs, h1, h2, _⟩ := h; ⟨rs, owns_RdR h1, h2.polys⟩
theorem OwP.form {w : World} {base : Nat} {v : Value} {pl : List Seg} (h : OwP w base v pl) : ∃ a cap, v = .slice a pl.length cap ∧ pl.length ≤ cap := h.rd.form
/-- a row of segments lies apart from a row of ints -/
theorem seg_apart {w : World} {b1 b2 n1 n2 s2 : Nat} {v1 v2 : Value} {x1 x2 : List Value} (h1 : w.ownsRow b1 3 1 v1 n1 x1) (h2 : w.ownsRow b2 44 s2 v2 n2 x2) : v1.ownBlock = none ∨ v1.ownBlock ≠ v2.ownBlock := by
  rcases h1.2 with ⟨rfl, _⟩ | ⟨g, cap, cur, rfl, _, hh, _⟩
  · exact .inl rfl
  · rcases h2.2 with ⟨rfl, _⟩ | ⟨g2, cap2, cur2, rfl, _, hh2, _⟩
    · exact .inr (by simp [Value.ownBlock])
    · refine .inr (fun e => ?_)
      simp only [Value.ownBlock, Option.some.injEq] at e
      rw [e, hh2] at hh
      simp at hh
theorem PolysO.grown {w w' : World} {base : Nat} {v : Value} {n : Nat} {xs : List Value} {rs : List RSeg} {pl : List Seg} (h : PolysO w base rs pl) (ho : w.ownsRow base 44 2 v n xs) (hg : w.grownBy w' v.ownBlock) : PolysO w' base rs pl :=
  ⟨h.1, fun k hk => ⟨(h.2 k hk).1, (h.2 k hk).2.kept hg (seg_apart (h.2 k hk).2 ho)⟩⟩
theorem getD_snocR (rs : List RSeg) (s : RSeg) (k : Nat) : (rs ++ [s]).getD k noR = if k < rs.length then rs.getD k noR else if k = rs.length then s else noR := by
  by_cases h : k < rs.length
  · rw [if_pos h]; simp only [List.getD]; rw [List.getElem?_append_left h]
  · by_cases h2 : k = rs.length
    · subst h2; simp [List.getD]
    · rw [if_neg h, if_neg h2]; simp [List.getD, show rs.length + 1 ≤ k by omega]
theorem getD_snocG (rs : List Seg) (s : Seg) (k : Nat) : (rs ++ [s]).getD k noG = if k < rs.length then rs.getD k noG else if k = rs.length then s else noG := by
  by_cases h : k < rs.length
  · rw [if_pos h]; simp only [List.getD]; rw [List.getElem?_append_left h]
  · by_cases h2 : k = rs.length
    · subst h2; simp [List.getD]
    · rw [if_neg h, if_neg h2]; simp [List.getD, show rs.length + 1 ≤ k by omega]
/-- one segment more, whose polynomial is new -/
theorem OwP_snoc {wr w2 w3 : World} {base : Nat} {v v' pv : Value} {rs : List RSeg} {pl : List Seg} {c : Int} {p : List Int}
    (h1 : w2.ownsRow base 44 2 v rs.length (segCells rs)) (h2 : PolysO w2 base rs pl) (h3 : ApartR rs) (hlt : ∀ k, k < rs.length → ∀ j, (rs.getD k noR).2.ownBlock = some j → j < wr.heap.size)
    (hp : OwnI w2 wr.heap.size pv p) (hb : base ≤ wr.heap.size)
    (ho : w3.ownsRow base 44 2 v' (rs.length + 1) (segCells rs ++ [.int .i64 c, pv])) (hg : w2.grownBy w3 v.ownBlock) : OwP w3 base v' (pl ++ [(c, p)]) := by
  have hq := h2.grown h1 hg
  have hp3 : OwnI w3 wr.heap.size pv p := World.ownsRow.kept hp hg (seg_apart hp h1)
  have hl := h2.1
  refine ⟨rs ++ [(c, pv)], ?_, ⟨by simp [hl], fun k hk => ?_⟩, fun i j hi hj hne => ?_⟩
  · rw [List.length_append, segCells_append]
    exact ho
  · simp at hk
    rw [getD_snocR, getD_snocG]
    by_cases hkl : k < rs.length
    · rw [if_pos hkl, if_pos (by omega)]; exact hq.2 k hkl
    · have hke : k = rs.length := by omega
      rw [if_neg hkl, if_pos hke, if_neg (by omega), if_pos (by omega)]
      exact ⟨rfl, ownsRow_mono hp3 hb⟩
  · simp at hi hj
    rw [getD_snocR, getD_snocR]
    by_cases hil : i < rs.length
    · by_cases hjl : j < rs.length
      · rw [if_pos hil, if_pos hjl]; exact h3 i j hil hjl hne
      · rw [if_pos hil, if_neg hjl, if_pos (by omega)]
        cases hv : (rs.getD i noR).2.ownBlock with
        | none => exact .inl rfl
        | some g =>
          refine .inr (fun e => ?_)
          have a := hlt i hil g hv
          have b := (hp3.lt g e.symm).1
          omega
    · rw [if_neg hil, if_pos (by omega), if_pos (show j < rs.length by omega)]
      show pv.ownBlock = none ∨ pv.ownBlock ≠ _
      cases hv : pv.ownBlock with
      | none => exact .inl rfl
      | some g =>
        refine .inr (fun e => ?_)
        have a := hlt j (by omega) g e.symm
        have b := (hp3.lt g hv).1
        omega
theorem PolysO.lt {w : World} {base : Nat} {rs : List RSeg} {pl : List Seg} (h : PolysO w base rs pl) : ∀ k, k < rs.length → ∀ j, (rs.getD k noR).2.ownBlock = some j → j < w.heap.size :=
  fun k hk j hj => ((h.2 k hk).2.lt j hj).2
/-- append(s, seg): one new segment, laid in a new block -/
theorem RdN_seg (w : World) (c : Int) (pv : Value) : RdN (w.alloc (.cells #[.int .i64 c, pv] 44)) 2 (.slice (some ⟨w.heap.size, 0, none⟩) 1 1) 1 [.int .i64 c, pv] := by
  refine ⟨_, 1, rfl, rfl, .inr ⟨w.heap.size, 0, rfl, by simp, fun j hj => ?_⟩⟩
  match j, hj with
  | 0, _ => simp [go_sem]
  | 1, _ => simp [go_sem]
theorem one_seg (c : Int) (a : Option Addr) (n k : Nat) : ∀ y ∈ [Value.int .i64 c, .slice a n k], y.oneCell' = true := by
  intro y hy
  simp at hy
  rcases hy with rfl | rfl <;> rfl
/-- a plan of the call's own is returned -/
def FreshP (w : World) (pl : List Seg) (e : Ending) (w' : World) : Prop := ∃ v, e = .returned v ∧ OwP w' w.heap.size v pl ∧ Below w.heap.size w w'
def FreshPB (w : World) (pl : List Seg) (b : Bool) (e : Ending) (w' : World) : Prop := ∃ v, e = .returned (.tuple #[v, .bool b]) ∧ OwP w' w.heap.size v pl ∧ Below w.heap.size w w'

theorem own_set {w : World} {base e s n b o : Nat} {v u : Value} {xs : List Value} (h : w.ownsRow base e s v n xs) (hb : b < base) : (w.setCell ⟨b, o, none⟩ u).ownsRow base e s v n xs :=
  ownsRow_kept_new h (grownBy_setCell w b o u) (fun k hk => by cases hk; exact hb)
def SegR (w : World) (c : Int) (p : List Int) (e : Ending) (w' : World) : Prop := ∃ qa qn qc, e = .returned (.agg #[.int .i64 c, .slice qa qn qc]) ∧ OwnI w' w.heap.size (.slice qa qn qc) p ∧ Below w.heap.size w w'
set_option maxRecDepth 20000 in
theorem c_l9OwnSegment (c : Int) (pa : Option Addr) (pn pc : Nat) (p : List Int) (w : World) (ha : RdI w (.slice pa pn pc) p) (hx : p.length ≤ 1099511627776) :
    Calls Tryz.prog 79 #[.agg #[.int .i64 c, .slice pa pn pc]] w (SegR w c p) := by
  have hpn : pn = p.length := by
    obtain ⟨a2, c2, e, _⟩ := ha
    simp only [Value.slice.injEq, List.length_map] at e
    exact e.2.1
  subst hpn
  have hB1 : Below w.heap.size w (w.alloc (.cells #[.int .i64 c, .slice pa p.length pc] 44)) := (Below.refl _ _).alloc (Nat.le_refl _) _
  have hB2 : Below w.heap.size w ((w.alloc (.cells #[.int .i64 c, .slice pa p.length pc] 44)).alloc (.cells #[.int .i64 0, .slice none 0 0] 44)) := hB1.alloc (by simp) _
  have hB3 : Below w.heap.size w (((w.alloc (.cells #[.int .i64 c, .slice pa p.length pc] 44)).alloc (.cells #[.int .i64 0, .slice none 0 0] 44)).alloc (.cells #[] 3)) := hB2.alloc (by simp; omega) _
  have ho : (((w.alloc (.cells #[.int .i64 c, .slice pa p.length pc] 44)).alloc (.cells #[.int .i64 0, .slice none 0 0] 44)).alloc (.cells #[] 3)).ownsRow (w.heap.size + 2) 3 1 (.slice (some ⟨w.heap.size + 1 + 1, 0, none⟩) 0 0) 0 [] := by
    have := World.ownsRow_made ((w.alloc (.cells #[.int .i64 c, .slice pa p.length pc] 44)).alloc (.cells #[.int .i64 0, .slice none 0 0] 44)) #[] 0 (base := w.heap.size + 2) (e := 3) (size := 1) (by simp) (by decide) rfl
    simpa using this
  have hr := RdN_ints (ha.kept hB3)
  have hbs : w.heap.size + 2 ≤ (((w.alloc (.cells #[.int .i64 c, .slice pa p.length pc] 44)).alloc (.cells #[.int .i64 0, .slice none 0 0] 44)).alloc (.cells #[] 3)).heap.size := by simp <;> omega
  clear hB1 hB2 ha
  go_enter Tryz.func79, Tryz.ntmps79
  go_wp2_with (at_builtin; refine appN 32 3 Tryz.underlying32 infoInt rfl (by decide) (by decide) rfl _ _ rfl (w.heap.size + 2) _ _ _ rfl ho _ _ _ rfl hr (one_ints p) (by omega) hbs ?_)
  intro v' w3 ho3 hg3 _
  have hB4 : Below (w.heap.size + 2) (((w.alloc (.cells #[.int .i64 c, .slice pa p.length pc] 44)).alloc (.cells #[.int .i64 0, .slice none 0 0] 44)).alloc (.cells #[] 3)) w3 := (Below.refl _ _).grown hg3 hbs (fun j hj => (ho.lt j hj).1)
  have e0 : w3.cell? ⟨w.heap.size, 0, none⟩ = some (.int .i64 c) := by rw [hB4.cell (p := ⟨w.heap.size, 0, none⟩) (by simp)]; simp [go_sem]
  have e1 : w3.cell? ⟨w.heap.size, 1, none⟩ = some (.slice pa p.length pc) := by rw [hB4.cell (p := ⟨w.heap.size, 1, none⟩) (by simp)]; simp [go_sem]
  have e2 : w3.cell? ⟨w.heap.size + 1, 0, none⟩ = some (.int .i64 0) := by rw [hB4.cell (p := ⟨w.heap.size + 1, 0, none⟩) (by simp)]; simp [go_sem]
  have e3 : w3.cell? ⟨w.heap.size + 1, 1, none⟩ = some (.slice none 0 0) := by rw [hB4.cell (p := ⟨w.heap.size + 1, 1, none⟩) (by simp)]; simp [go_sem]
  have f1 : w3.frozen? ⟨w.heap.size, 1, none⟩ = false := by rw [hB4.frozen (p := ⟨w.heap.size, 1, none⟩) (by simp)]; simp [go_sem]
  have f2 : w3.frozen? ⟨w.heap.size + 1, 0, none⟩ = false := by rw [hB4.frozen (p := ⟨w.heap.size + 1, 0, none⟩) (by simp)]; simp [go_sem]
  have f3 : w3.frozen? ⟨w.heap.size + 1, 1, none⟩ = false := by rw [hB4.frozen (p := ⟨w.heap.size + 1, 1, none⟩) (by simp)]; simp [go_sem]
  have hown : OwnI w3 (w.heap.size + 2) v' p := by
    unfold OwnI
    simpa using ho3
  have hb3 : Below w.heap.size w w3 := hB3.trans (hB4.mono (by omega))
  obtain ⟨qa, qc, rfl, hrest⟩ := owns_RdI hown
  simp only [List.length_map] at hown ⊢
  clear ho3 hg3 hB3 ho hr hB4 hrest hbs
  go_wp2
  refine bodyPost_ret (v := .agg #[.int .i64 c, .slice qa p.length qc]) (by simp [results, Tryz.results79, go_sem, e2, e3]) rfl ⟨_, _, _, rfl, ?_, ?_⟩
  · exact ownsRow_mono (own_set (own_set (own_set hown (by omega)) (by omega)) (by omega)) (by omega)
  · exact ((hb3.setCell (p := ⟨w.heap.size, 1, none⟩) (Nat.le_refl _) _).setCell (p := ⟨w.heap.size + 1, 0, none⟩) (by simp) _).setCell (p := ⟨w.heap.size + 1, 1, none⟩) (by simp) _

theorem ApartR.nil : ApartR [] := fun i j hi => by simp at hi
set_option maxRecDepth 20000 in
set_option maxHeartbeats 800000 in
theorem c_l9OwnListSegment (v : Value) (pl : List Seg) (w : World) (ha : RdP w v pl) (hx : pl.length ≤ 1099511627776) (hpx : ∀ s ∈ pl, s.2.length ≤ 1099511627776) :
    Calls Tryz.prog 38 #[v] w (FreshP w pl) := by
  have HPX := hidd hpx
  obtain ⟨a, cap, rfl, hcap⟩ := ha.form
  have ho0 := OwP.made w w.heap.size (Nat.le_refl _)
  have hB0 : Below w.heap.size w (w.alloc (.cells #[] 44)) := (Below.refl _ _).alloc (Nat.le_refl _) _
  clear hpx
  go_enter Tryz.func38, Tryz.ntmps38
  go_wp2
  go_loopw [3, 9] (fun r i wr => ∃ k : Nat, k ≤ pl.length ∧ i = .int .i64 k ∧ OwP wr w.heap.size r (pl.take k) ∧ Below w.heap.size w wr) (fun _ i _ => pl.length - (intOf i).toNat)
  case atStart => exact ⟨0, by omega, rfl, ho0, hB0⟩
  case round =>
    obtain ⟨k, hk, rfl, ho, hB⟩ := hrel
    clear ho0 hB0
    by_cases hlt : k < pl.length
    · obtain ⟨b, o, pa, pn, pc, rfl, hb, e1, e2, hp, hpc, hpn⟩ := ha.cell hB hlt
      have hpl := HPX.out (pl.getD k noG) (by simp [List.getD, hlt])
      have HTS := hidd (take_succG pl k hlt)
      obtain ⟨s, hs⟩ : ∃ s, pl.getD k noG = s := ⟨_, rfl⟩
      rw [hs] at e1 HTS hp hpl
      obtain ⟨c, p⟩ := s
      obtain ⟨rs, h1, h2, h3⟩ := ho
      have hrl : rs.length ≤ k := by have := h2.1; rw [List.length_take] at this; omega
      obtain ⟨L, hL⟩ : ∃ L, pl.take k = L := ⟨_, rfl⟩
      rw [hL] at h2 HTS
      have i1 : (0 : Int) ≤ (k : Int) := by omega
      have i2 : (k : Int) < (pl.length : Int) := by omega
      have hBa : Below w.heap.size w (wr.alloc (.cells #[.int .i64 c, .slice pa pn pc] 44)) := hB.alloc hB.size _
      have hBa2 : Below wr.heap.size wr (wr.alloc (.cells #[.int .i64 c, .slice pa pn pc] 44)) := (Below.refl _ _).alloc (Nat.le_refl _) _
      have HOS := hidd (c_l9OwnSegment c pa pn pc p _ (hp.kept hBa) hpl)
      have HP2 := hidd (h2.lt)
      have HR3 := hidd h3
      have HR2 := hidd (h2.kept hBa2)
      have h1a := h1.alloc (.cells #[.int .i64 c, .slice pa pn pc] 44)
      have hws := hB.size
      clear hs hp hpc hpn ha hpl hL h2 h3 h1 hB
      go_wp2_with fail
      refine HOS.out.mono ?_
      rintro e w2 ⟨qa, qn, qc, rfl, hq, hB2⟩
      have h12 := ownsRow_kept_below h1a hB2
      have HB2 := hidd (bthen hBa hB2)
      have HR22 := hidd (HR2.out.kept hB2)
      have HQ := hidd hq
      have hbs : w.heap.size ≤ w2.heap.size := HB2.out.size
      have hsz2 : wr.heap.size + 1 ≤ w2.heap.size := by have := hB2.size; simpa using this
      clear h1a hBa hBa2 hq hB2 HOS
      go_wp2_with (at_builtin; refine appN 23 44 Tryz.underlying23 infoSeg rfl (by decide) (by decide) rfl _ _ rfl w.heap.size _ _ _ rfl (h12.alloc _) _ _ _ rfl (RdN_seg w2 c (.slice qa qn qc)) (one_seg c qa qn qc) ?c1 ?c2 ?_)
      case c1 => omega
      case c2 => simp; omega
      intro v' w3 ho3 hg3 _
      have HO : Hid (OwP w3 w.heap.size v' (pl.take (k + 1)) ∧ Below w.heap.size w w3) := by
        refine ⟨?_, (HB2.out.alloc hbs _).grown hg3 (by simp; omega) (fun j hj => (h12.lt j hj).1)⟩
        rw [HTS.out]
        have hal : Below w2.heap.size w2 (w2.alloc (.cells #[.int .i64 c, .slice qa qn qc] 44)) := (Below.refl _ _).alloc (Nat.le_refl _) _
        exact OwP_snoc (wr := wr) (h12.alloc _) (HR22.out.kept hal) HR3.out HP2.out (ownsRow_mono (ownsRow_kept_below HQ.out hal) (by simp)) hws ho3 hg3
      clear ho3 hg3 h12
      go_wp2
      go_roundw
      case rel => exact ⟨k + 1, by omega, by go_num, HO.out.1, HO.out.2⟩
      case measure => simp [intOf]; omega
    · have HF : Hid (FreshP w pl (.returned u3) wr) := by
        rw [List.take_of_length_le (by omega)] at ho
        exact ⟨_, rfl, ho, hB⟩
      clear ho hB ha
      go_wp2
      go_ret
      exact HF.out
end Go.Proofs.YtdfnclnjnmdboaaGreatDoor
