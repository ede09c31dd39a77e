/- Lemmas and contracts for WholePlan (Pp4 Pp5): plain words on memory, contracts of the functions that the law reaches. No condition but what each states. -/
import Derived.Test.YtdfnclnjnmdboaaGreatDoorMWholePlanPp1
import Derived.Test.YtdfnclnjnmdboaaGreatDoorMWholePlanSq1
import Derived.Shelf.RegionOpen
import Derived.RangeFuncCalls
import Derived.RangeFuncBox
namespace Go.Proofs.YtdfnclnjnmdboaaGreatDoor
set_option linter.unusedVariables false
open Go.RowKit Go.Shelf
attribute [local go_sem] Oper.semAt_some

theorem segP_cut (l : List UInt8) : segP l = match numP (Lib.cut l [58]).1, ppP (Lib.cut l [58]).2.1 with
    | some c, some p => some (c, p)
    | _, _ => none := by
  unfold segP Lib.cut
  rcases index_lo 58 l with h | ⟨i, h⟩
  · rw [if_pos h, if_neg (by rw [h]; decide)]
    simp only [ppP_nil]
    cases numP l <;> rfl
  · rw [if_neg (by rw [h]; omega), if_pos (by rw [h]; omega)]
    simp only [h, Int.toNat_natCast, List.length_cons, List.length_nil, Nat.zero_add]
    cases numP (l.take i) <;> cases ppP (l.drop (i + 1)) <;> rfl
theorem cut_le (l : List UInt8) : (Lib.cut l [58]).1.length ≤ l.length ∧ (Lib.cut l [58]).2.1.length ≤ l.length := by
  unfold Lib.cut
  split
  · simp; omega
  · simp
theorem allSeg_len {xs : List (List UInt8)} {pl : List Seg} (h : allSeg xs = some pl) : pl.length = xs.length := by
  have := congrArg List.length (allSeg_eq xs pl h)
  rw [List.length_map] at this
  exact this.symm
theorem allSeg_pl {xs : List (List UInt8)} {pl : List Seg} (h : allSeg xs = some pl) : ∀ s ∈ pl, s.2.length ≤ 7 := by
  intro s hs
  induction xs generalizing pl with
  | nil => simp [allSeg] at h; subst h; cases hs
  | cons x r ih =>
    unfold allSeg at h
    cases h1 : segP x with
    | none => rw [h1] at h; simp at h
    | some u =>
      cases h2 : allSeg r with
      | none => rw [h1, h2] at h; simp at h
      | some q =>
        rw [h1, h2] at h
        simp at h
        subst h
        rcases List.mem_cons.1 hs with rfl | hs
        · exact (polyB_len (segP_eq h1).2).2
        · exact ih h2 hs
def dataQ (pre : List PieceB) : List (List UInt8) := pre.map fun x => x.1.data.toList
theorem dataQ_snoc (pre : List PieceB) (x : PieceB) : dataQ (pre ++ [x]) = dataQ pre ++ [x.1.data.toList] := by simp [dataQ]
theorem dataQ_len (pre : List PieceB) : (dataQ pre).length = pre.length := by simp [dataQ]

/-- the results' cells and the plan's, new -/
def ptW (w : World) : World := ((w.alloc (.cells #[.slice none 0 0] 23)).alloc (.cells #[.bool false] 4)).alloc (.cells #[.slice none 0 0] 23)
structure PtB (w W : World) : Prop where
  r4 : W.cell? ⟨w.heap.size, 0, none⟩ = some (.slice none 0 0)
  f4 : W.frozen? ⟨w.heap.size, 0, none⟩ = false
  r5 : W.cell? ⟨w.heap.size + 1, 0, none⟩ = some (.bool false)
  f5 : W.frozen? ⟨w.heap.size + 1, 0, none⟩ = false
theorem ptW_box (w : World) : PtB w (ptW w) := by constructor <;> simp [ptW, go_sem]
theorem ptW_size (w : World) : (ptW w).heap.size = w.heap.size + 1 + 1 + 1 := by simp [ptW]
theorem ptW_below (w : World) : Below w.heap.size w (ptW w) := (((Below.refl _ _).alloc (Nat.le_refl _) _).alloc (by simp) _).alloc (by simp; omega) _
theorem ptW_plan (w : World) : (ptW w).cell? ⟨w.heap.size + 1 + 1, 0, none⟩ = some (.slice none 0 0) ∧ (ptW w).frozen? ⟨w.heap.size + 1 + 1, 0, none⟩ = false := by constructor <;> simp [ptW, go_sem]
theorem PtB.kept {w W W' : World} (h : PtB w W) (hk : ∀ k, k < w.heap.size + 2 → W'.heap[k]? = W.heap[k]?) : PtB w W' := by
  obtain ⟨h3, h4, h5, h6⟩ := h
  have q1 := hk w.heap.size (by omega)
  have q2 := hk (w.heap.size + 1) (by omega)
  exact ⟨(World.cell?_of_block q1).trans h3, (World.frozen?_of_block q1).trans h4, (World.cell?_of_block q2).trans h5, (World.frozen?_of_block q2).trans h6⟩
/-- both results are stored -/
def setQ (w W : World) (v : Value) (b : Bool) : World := (W.setCell ⟨w.heap.size, 0, none⟩ v).setCell ⟨w.heap.size + 1, 0, none⟩ (.bool b)
theorem setQ_other (w W : World) (v : Value) (b : Bool) (k : Nat) (h1 : k ≠ w.heap.size) (h2 : k ≠ w.heap.size + 1) : (setQ w W v b).heap[k]? = W.heap[k]? :=
  (heap_set_other _ _ _ _ h2).trans (heap_set_other _ _ _ _ h1)
theorem setQ_cells {w W : World} (h : PtB w W) (v : Value) (b : Bool) : (setQ w W v b).cell? ⟨w.heap.size, 0, none⟩ = some v ∧ (setQ w W v b).cell? ⟨w.heap.size + 1, 0, none⟩ = some (.bool b) := by
  have e5 := (World.cell?_of_block (a := ⟨w.heap.size + 1, 0, none⟩) (heap_set_other W w.heap.size (w.heap.size + 1) v (by omega))).trans h.r5
  refine ⟨?_, World.cell?_setCell_same' _ _ _ (by rw [e5]; rfl)⟩
  refine (World.cell?_of_block (a := ⟨w.heap.size, 0, none⟩) (heap_set_other _ (w.heap.size + 1) w.heap.size _ (by omega))).trans ?_
  exact World.cell?_setCell_same' _ _ _ (by rw [h.r4]; rfl)
theorem setQ_below {w W : World} (v : Value) (b : Bool) (h : Below w.heap.size w W) : Below w.heap.size w (setQ w W v b) :=
  (h.setCell (p := ⟨w.heap.size, 0, none⟩) (Nat.le_refl _) v).setCell (p := ⟨w.heap.size + 1, 0, none⟩) (by show w.heap.size ≤ w.heap.size + 1; omega) _

theorem own_noncellG {W W' : World} {base e n s : Nat} {v : Value} {xs : List Value} {row : Option Nat} (h : W.ownsRow base e s v n xs) (hg : W.grownBy W' row) (hr : ∀ r, row = some r → ∃ o : Obj, W.heap[r]? = some o ∧ o.isCells = false) : W'.ownsRow base e s v n xs := by
  refine h.kept hg ?_
  rcases h.2 with ⟨rfl, _⟩ | ⟨g, cap, cur, rfl, _, hh, _⟩
  · exact .inl rfl
  · refine .inr (fun q => ?_)
    obtain ⟨o, ho, hc⟩ := hr g q.symm
    rw [hh] at ho
    cases ho
    cases hc
theorem own_newG {W W' : World} {base e n s : Nat} {v : Value} {xs : List Value} {row : Option Nat} (h : W.ownsRow base e s v n xs) (hg : W.grownBy W' row) (hr : ∀ r, row = some r → r < base) : W'.ownsRow base e s v n xs := by
  refine h.kept hg ?_
  cases hv : v.ownBlock with
  | none => exact .inl rfl
  | some j =>
    refine .inr (fun q => ?_)
    have h1 := (h.lt j hv).1
    have h2 := hr j q.symm
    omega
theorem OwP_noncell {W W' : World} {base : Nat} {v : Value} {pl : List Seg} {row : Option Nat} (h : OwP W base v pl) (hg : W.grownBy W' row) (hr : ∀ r, row = some r → ∃ o : Obj, W.heap[r]? = some o ∧ o.isCells = false) : OwP W' base v pl :=
  let ⟨rs, h1, h2, h3⟩ := h; ⟨rs, own_noncellG h1 hg hr, ⟨h2.1, fun k hk => ⟨(h2.2 k hk).1, own_noncellG (h2.2 k hk).2 hg hr⟩⟩, h3⟩
theorem OwP_new {W W' : World} {base : Nat} {v : Value} {pl : List Seg} {row : Option Nat} (h : OwP W base v pl) (hg : W.grownBy W' row) (hr : ∀ r, row = some r → r < base) : OwP W' base v pl :=
  let ⟨rs, h1, h2, h3⟩ := h; ⟨rs, own_newG h1 hg hr, ⟨h2.1, fun k hk => ⟨(h2.2 k hk).1, own_newG (h2.2 k hk).2 hg hr⟩⟩, h3⟩
/-- between two rounds: the results' cells, the plan read so far -/
structure PtI (w : World) (base : Nat) (pl : List Seg) (W : World) : Prop where
  bx : PtB w W
  below : Below w.heap.size w W
  size : base ≤ W.heap.size
  val : ∃ p cap, W.cell? ⟨w.heap.size + 1 + 1, 0, none⟩ = some (.slice p pl.length cap) ∧ OwP W base (.slice p pl.length cap) pl
  fV : W.frozen? ⟨w.heap.size + 1 + 1, 0, none⟩ = false
theorem PtI.grown {w W W' : World} {base : Nat} {pl : List Seg} {row : Option Nat} (h : PtI w base pl W) (hw : w.heap.size + 3 ≤ base) (hg : W.grownBy W' row) (hr : ∀ k, row = some k → base ≤ k ∧ ∃ o : Obj, W.heap[k]? = some o ∧ o.isCells = false) : PtI w base pl W' := by
  have hs := h.size
  have hblk : ∀ k, k < base → W'.heap[k]? = W.heap[k]? := fun k hk => hg.block k (by omega) (fun e => by have := (hr k e.symm).1; omega)
  obtain ⟨p, cap, h1, h2⟩ := h.val
  have hb := hblk (w.heap.size + 1 + 1) (by omega)
  exact ⟨h.bx.kept (fun k hk => hblk k (by omega)), h.below.grown hg h.below.size (fun k hk => by have := (hr k hk).1; omega), Nat.le_trans hs hg.size, ⟨p, cap, (World.cell?_of_block hb).trans h1, OwP_noncell h2 hg (fun k hk => (hr k hk).2)⟩, (World.frozen?_of_block hb).trans h.fV⟩
theorem PtI.setc {w W : World} {base k : Nat} {pl : List Seg} (h : PtI w base pl W) (h1 : w.heap.size + 3 ≤ k) (h3 : k < base) (v : Value) : PtI w base pl (W.setCell ⟨k, 0, none⟩ v) := by
  have hblk : ∀ j, j ≠ k → (W.setCell ⟨k, 0, none⟩ v).heap[j]? = W.heap[j]? := fun j hj => heap_set_other _ _ _ _ hj
  obtain ⟨p, cap, g1, g2⟩ := h.val
  have hb := hblk (w.heap.size + 1 + 1) (by omega)
  exact ⟨h.bx.kept (fun j hj => hblk j (by omega)), h.below.setCell (p := ⟨k, 0, none⟩) (by show w.heap.size ≤ k; omega) v, by have := h.size; simpa [World.setCell] using this, ⟨p, cap, (World.cell?_of_block hb).trans g1, OwP_new g2 (grownBy_setCell _ _ _ _) (fun j hj => by cases hj; exact h3)⟩, (World.frozen?_of_block hb).trans h.fV⟩
theorem PtI.kept {w W W' : World} {base : Nat} {pl : List Seg} (h : PtI w base pl W) (hw : w.heap.size + 3 ≤ base) (hB : Below W.heap.size W W') : PtI w base pl W' := by
  have hs := h.size
  obtain ⟨p, cap, h1, h2⟩ := h.val
  have hv := hB.block (w.heap.size + 1 + 1) (by omega)
  exact ⟨h.bx.kept (fun k hk => hB.block k (by omega)), bthen h.below hB, Nat.le_trans hs hB.size, ⟨p, cap, (World.cell?_of_block hv).trans h1, h2.kept hB⟩, (World.frozen?_of_block hv).trans h.fV⟩
/-- the plan's variable is laid anew -/
theorem PtI.app {w W W' : World} {base cap : Nat} {p : Option Addr} {pl ql : List Seg} {v : Value} {n : Nat} {xs : List Value} (h : PtI w base pl W) (hw : w.heap.size + 3 ≤ base) (hv : W.ownsRow base 44 2 v n xs) (hg : W.grownBy W' v.ownBlock)
    (ho : OwP W' base (.slice p ql.length cap) ql) : PtI w base ql (W'.setCell ⟨w.heap.size + 1 + 1, 0, none⟩ (.slice p ql.length cap)) := by
  have hs := h.size
  have hblk : ∀ k, k < base → W'.heap[k]? = W.heap[k]? := fun k hk => hg.block k (by omega) (fun e => by have := (hv.lt k e.symm).1; omega)
  have hblk2 : ∀ k, k < base → k ≠ w.heap.size + 1 + 1 → (W'.setCell ⟨w.heap.size + 1 + 1, 0, none⟩ (.slice p ql.length cap)).heap[k]? = W.heap[k]? := fun k hk hk2 => (heap_set_other _ _ _ _ hk2).trans (hblk k hk)
  obtain ⟨p0, cap0, h1, h2⟩ := h.val
  have h1' : W'.cell? ⟨w.heap.size + 1 + 1, 0, none⟩ = some (.slice p0 pl.length cap0) := (World.cell?_of_block (a := ⟨w.heap.size + 1 + 1, 0, none⟩) (hblk (w.heap.size + 1 + 1) (by omega))).trans h1
  have hBw : Below w.heap.size w W' := h.below.grown hg h.below.size (fun k hk => by have := (hv.lt k hk).1; omega)
  refine ⟨h.bx.kept (fun k hk => hblk2 k (by omega) (by omega)), hBw.setCell (p := ⟨w.heap.size + 1 + 1, 0, none⟩) (by show w.heap.size ≤ w.heap.size + 1 + 1; omega) _, by have := hg.size; simp [World.setCell]; omega,
    ⟨p, cap, World.cell?_setCell_same' _ _ _ (by rw [h1']; rfl), OwP_new ho (grownBy_setCell _ _ _ _) (fun j hj => by cases hj; omega)⟩, ?_⟩
  rw [World.frozen?_setCell]
  exact (World.frozen?_of_block (a := ⟨w.heap.size + 1 + 1, 0, none⟩) (hblk (w.heap.size + 1 + 1) (by omega))).trans h.fV
/-- a round has left: nothing is returned -/
def PtX (w : World) (W : World) : Prop := W.cell? ⟨w.heap.size, 0, none⟩ = some (.slice none 0 0) ∧ W.cell? ⟨w.heap.size + 1, 0, none⟩ = some (.bool false) ∧ Below w.heap.size w W
theorem PtX.grown {w W W' : World} {base : Nat} {row : Option Nat} (h : PtX w W) (hw : w.heap.size + 3 ≤ base) (hg : W.grownBy W' row) (hr : ∀ k, row = some k → base ≤ k) : PtX w W' := by
  obtain ⟨h1, h2, h3⟩ := h
  have l1 := World.block_lt_of_cell? W _ h1
  have l2 := World.block_lt_of_cell? W _ h2
  have q1 := hg.block w.heap.size l1 (fun e => by have := hr _ e.symm; omega)
  have q2 := hg.block (w.heap.size + 1) l2 (fun e => by have := hr _ e.symm; omega)
  exact ⟨(World.cell?_of_block q1).trans h1, (World.cell?_of_block q2).trans h2, h3.grown hg h3.size (fun k hk => by have := hr k hk; omega)⟩
theorem keepsOQ {W W' : World} (h : Below W.heap.size W W') : KeepsOthers W W' := ⟨h.size, fun k o hk _ => (h.block k (Array.getElem?_eq_some_iff.1 hk).1).trans hk⟩
theorem own_cellsG {W : World} {base e n s : Nat} {v : Value} {xs : List Value} (h : W.ownsRow base e s v n xs) (j : Nat) (o : Obj) (hj : v.ownBlock = some j) (ho : W.heap[j]? = some o) : o.isCells = true := by
  rcases h.2 with ⟨rfl, _⟩ | ⟨g, cap, cur, rfl, _, hh, _⟩
  · cases hj
  · simp only [Value.ownBlock, Option.some.injEq] at hj
    subst hj
    rw [hh] at ho
    cases ho
    rfl
theorem keepsC_appG {B c V base e n s : Nat} {W W2 W3 : World} {v u : Value} {xs : List Value} (hB2 : Below W.heap.size W W2) (h1 : c + 3 ≤ base) (h2 : B ≤ V) (h3 : V < c) (h4 : base ≤ W.heap.size) (hv : W2.ownsRow base e s v n xs) (hg : W2.grownBy W3 v.ownBlock) : KeepsC B c W (W3.setCell ⟨V, 0, none⟩ u) := by
  refine ⟨by have := hB2.size; have := hg.size; simp [World.setCell]; omega, fun k hk => ?_⟩
  have h5 : k < base := by omega
  have := hB2.size
  exact ((heap_set_other _ _ _ _ (by omega)).trans (hg.block k (by omega) (fun q => by have := (hv.lt k q.symm).1; omega))).trans (hB2.block k (by omega))
/-- the function leaves with v and b in its results' cells; the block D of the loop's deferred calls is shut -/
theorem setQ_leave {w W : World} {D : Nat} (hb : PtB w W) (hK : W.heap[D]? = some (.deferred (some []))) (hD : w.heap.size + 2 ≤ D) (hB : Below w.heap.size w W) (v : Value) (b : Bool) :
    (setQ w W v b).heap[D]? = some (.deferred (some [])) ∧ ((setQ w W v b).putObj D (.deferred none)).cell? ⟨w.heap.size, 0, none⟩ = some v ∧ ((setQ w W v b).putObj D (.deferred none)).cell? ⟨w.heap.size + 1, 0, none⟩ = some (.bool b) ∧ Below w.heap.size w ((setQ w W v b).putObj D (.deferred none)) := by
  have h1 : (setQ w W v b).heap[D]? = some (.deferred (some [])) := (setQ_other w W v b D (by omega) (by omega)).trans hK
  obtain ⟨c4, c5⟩ := setQ_cells hb v b
  exact ⟨h1, (World.cell?_of_block (World.putObj_heap_other (by show w.heap.size ≠ D; omega))).trans c4, (World.cell?_of_block (World.putObj_heap_other (by show w.heap.size + 1 ≠ D; omega))).trans c5,
    (setQ_below v b hB).grown (grownBy_putObj' _ D (.deferred none)) (setQ_below v b hB).size (fun k e => by cases e; omega)⟩
theorem OwP_putObj {W : World} {base D : Nat} {u : Value} {pl : List Seg} (h : OwP W base u pl) (hK : W.heap[D]? = some (.deferred (some []))) : OwP (W.putObj D (.deferred none)) base u pl :=
  let ⟨rs, h1, h2, h3⟩ := h; ⟨rs, ownsRow_putObj h1 _ hK rfl, ⟨h2.1, fun k hk => ⟨(h2.2 k hk).1, ownsRow_putObj (h2.2 k hk).2 _ hK rfl⟩⟩, h3⟩
theorem setQ_own {w W : World} {base D : Nat} {v u : Value} {b : Bool} {pl : List Seg} (h : OwP W base u pl) (hb : w.heap.size + 2 ≤ base) (hK : (setQ w W v b).heap[D]? = some (.deferred (some []))) : OwP ((setQ w W v b).putObj D (.deferred none)) w.heap.size u pl := by
  have h1 : OwP (setQ w W v b) base u pl := OwP_new (OwP_new h (grownBy_setCell _ _ _ _) (fun k e => by cases e; omega)) (grownBy_setCell _ _ _ _) (fun k e => by cases e; omega)
  exact (OwP_putObj h1 hK).mono (by omega)
/-- append(s, x..) in a round: the elements of any slice that reads as cells, of any size -/
theorem appNIn {F : Fence} {fuel : Nat} {P : Program} {ops : Array Oper} {rest : List Oper} {o : Oper} {a : Act} {Q : Exit → Act → World → Prop} {w : World} (t e : TypeId) {z : Value} {size bytes : Nat}
    (ht : P.underlying t = some (.slice e)) (hi : (P.info? e).map (fun i => (i.zero, i.size, i.bytes)) = some (some z, size, bytes)) (hzs : z.cells.size = size) (hsz : 0 < size) (hby : bytes ≤ 64)
    (hgd : o.guard = none) (s x : Operand) (hop : o.op = .call { callee := .builtin .append, args := #[s, x], argTypes := #[t, t] })
    (base : Nat) (v : Value) (n : Nat) (xs : List Value) (hs : a.eval s = v) (hown : w.ownsRow base e size v n xs)
    (u : Value) (m : Nat) (news : List Value) (hx : a.eval x = u) (hu : RdN w size u m news) (h1 : ∀ y ∈ news, y.oneCell' = true) (hn : n + m ≤ 2199023255550) (hbase : base ≤ w.heap.size)
    (h : ∀ v' w', w'.ownsRow base e size v' (n + m) (xs ++ news) → w.grownBy w' v.ownBlock → InOld w v v' → wpListIn F fuel P ops Q rest (a.put o.dst v') w') : wpListIn F fuel P ops Q (o :: rest) a w := by
  obtain ⟨i0, hi0, hz0, hz1, hz2⟩ := info_parts hi
  have hbb : (n + m) * bytes ≤ (n + m) * 64 := Nat.mul_le_mul_left _ hby
  refine wpListIn_plain hgd fun K hK' => ?_
  obtain ⟨v', w', hrun, r1, r2, r3⟩ := run_appN (P := P) w base t o.type e i0 z size bytes ht hi0 hz0 hz1 hz2 hzs hsz v n xs hown u m news hu h1 (by simp only [maxLen]; omega) (by omega) hbase
  unfold Oper.wpIn
  refine ⟨?_, ?_⟩
  · simp [Oper.about, hop, resolve, Target.leads, Sem.run_pure]
  · rw [Oper.semAt_plain F _ _ (by rw [hop]; intro c hc'; cases hc')]
    simp [execOp, hop, resolve, invoke, builtin, hs, hx, hrun, Result.andThen]
    exact hK' _ _ (h v' w' r1 r2 r3)
end Go.Proofs.YtdfnclnjnmdboaaGreatDoor

namespace Go.Proofs.YtdfnclnjnmdboaaGreatDoor
set_option linter.unusedVariables false
open Go.RowKit Go.Shelf
attribute [local go_sem] Oper.semAt_some

theorem plan_yes {l : List UInt8} {pl : List Seg} (h : allSeg (cutP 47 l) = some pl) : planP l = if planB pl = true then some pl else none := by unfold planP; rw [h]; rfl
theorem plan_no {l : List UInt8} (h : allSeg (cutP 47 l) = none) : planP l = none := by unfold planP; rw [h]; rfl
set_option maxRecDepth 100000 in
set_option maxHeartbeats 3200000 in
theorem c_ParsePlan (s : ByteArray) (l : List UInt8) (hs : IsS s l) (w : World) (htab : TabW w) (herr : ErrW w) (hmax : MaxW w) (hsz : s.size ≤ 1048576) :
    Calls Tryz.prog 9 #[.string s] w (FreshPB w ((planP l).getD []) (planP l).isSome) := by
  refine (callsIn_wide (n := 4)).1 ?_
  refine callsIn_of_wp_marks Tryz.func9 rfl trivial ?_ rfl
  simp only [Tryz.ntmps9, List.size_toArray, List.length_cons, List.length_nil, Nat.reduceAdd, Nat.reduceSub, Array.replicate_succ, Array.replicate_zero, List.push_toArray, List.append_toArray, List.nil_append, List.cons_append]
  have hn4 : 1 ≤ 4 := by omega
  have HZp : Hid ((Lib.splitB ⟨#[47]⟩ 0 (Lib.countB s ⟨#[47]⟩) s).map (·.data.toList) = cutP 47 l) := by
    show _ = _
    rw [splitB_cutC, show s.data.toList = l from hs]
    unfold cutS
    rw [List.map_map]
    conv => rhs; rw [← List.map_id (cutP 47 l)]
    apply List.map_congr_left
    intro x _
    exact bytS_data x
  gi_wp2_with (refine ⟨trivial, ?_⟩; gi_at_call 29; refine (callsIn_wide.2 (c_SplitSeq s _ _)).mono ?_; rintro e w' ⟨rfl, rfl⟩)
  have hcc := seqW_cells (ptW w) s ⟨#[47]⟩
  have hcb := seqW_below (ptW w) s ⟨#[47]⟩
  have hs0 := seqW_size (ptW w) s ⟨#[47]⟩
  have hps := ptW_size w
  have hb1 := ptW_box w
  obtain ⟨hp1, hp2⟩ := ptW_plan w
  have hF1 := ptW_below w
  obtain ⟨P0, hP0⟩ : ∃ P0, ptW w = P0 := ⟨_, rfl⟩
  rw [hP0] at hcc hcb hs0 hps hb1 hp1 hp2 hF1
  unfold ptW at hP0
  rw [hP0]
  obtain ⟨W0, hW0⟩ : ∃ W0, seqW P0 s ⟨#[47]⟩ = W0 := ⟨_, rfl⟩
  rw [hW0] at hcc hcb hs0 ⊢
  rw [hps] at hcc hs0
  have hF0 : Below w.heap.size w W0 := hF1.trans (hcb.mono hF1.size)
  have hbx0 := hb1.kept (W' := W0) (fun k hk => hcb.block k (by omega))
  have hVb : W0.heap[w.heap.size + 1 + 1]? = P0.heap[w.heap.size + 1 + 1]? := hcb.block _ (by omega)
  have hV0 : W0.cell? ⟨w.heap.size + 1 + 1, 0, none⟩ = some (.slice none 0 0) := (World.cell?_of_block (a := ⟨w.heap.size + 1 + 1, 0, none⟩) hVb).trans hp1
  have hVf : W0.frozen? ⟨w.heap.size + 1 + 1, 0, none⟩ = false := (World.frozen?_of_block (a := ⟨w.heap.size + 1 + 1, 0, none⟩) hVb).trans hp2
  have hBm : 0 < w.heap.size := by obtain ⟨m, hm⟩ := hmax; exact World.block_lt_of_cell? w _ hm
  have hmW0 : MaxW W0 := hmax.below hF0
  clear hW0 hP0 hcb hVb hb1 hp1 hp2 hps hF1
  have HW0 : Hid (W0.heap.size = w.heap.size + 1 + 1 + 1 + 3) := hs0
  refine wpIn_rangeFunc_cell rfl (by omega) (gf := 101) (lb := #[.pointer (some ⟨w.heap.size + 1 + 1 + 1 + 1, 0, none⟩), .pointer (some ⟨w.heap.size + 1 + 1 + 1, 0, none⟩), .pointer (some ⟨w.heap.size + 1 + 1 + 1 + 2, 0, none⟩)]) rfl trivial (enters_of Tryz.func101 (by kernel_rfl) rfl) (c0 := w.heap.size + 1 + 1 + 1) (by omega)
    (splitSeq_stops (4 - 1) (by omega) s ⟨#[47]⟩ (by decide) (by decide) hsz w.heap.size (w.heap.size + 1 + 1 + 1) hBm (by omega) W0 (by omega) hmW0 hcc.1 hcc.2.1 hcc.2.2.1 hcc.2.2.2) (fun h k => h.trans k) (KeepsC.putObj (by omega) (by omega)) (fun _ => rfl)
    (fun pre W => ∃ pl, allSeg (dataQ pre) = some pl ∧ PtI w W0.heap.size pl W)
    (fun c pre W => c = .ret ∧ allSeg (dataQ pre) = none ∧ PtX w W)
    (fun s A' B' row hs' hg hr => by obtain ⟨vs, q1, q3⟩ := hs'; exact ⟨vs, q1, q3.grown (by omega) hg hr⟩)
    (fun c s A' B' row hs' hg hr => ⟨hs'.1, hs'.2.1, hs'.2.2.grown (base := W0.heap.size) (by omega) hg (fun k hk => (hr k hk).1)⟩)
    (fun s W v hs' => by obtain ⟨vs, q1, q3⟩ := hs'; exact ⟨vs, q1, q3.setc (by omega) (by omega) v⟩)
    ⟨[], rfl, hbx0, hF0, Nat.le_refl _, ⟨none, 0, hV0, OwP.nil _ _⟩, hVf⟩
    (fun x => { tmps := #[.string s, undef, .pointer (some ⟨w.heap.size, 0, none⟩), .pointer (some ⟨w.heap.size + 1, 0, none⟩), .pointer (some ⟨w.heap.size + 1 + 1, 0, none⟩), .string x.1, undef, undef, undef, undef, undef, undef, undef, .string s, seqV (w.heap.size + 1 + 1 + 1), .string x.1, undef, undef, undef, undef, undef, undef, undef, undef, undef, undef, undef, undef, undef, undef, undef, undef, undef, undef, undef, undef, undef, undef, undef, undef, undef, undef, undef, undef, undef, undef, undef, undef], defers := [] }) ?assign ?body ?done ?stop
  case assign =>
    intro l x W K hK
    gi_wp2
    exact hK
  case body =>
    rintro l' pre x W ⟨pl, hv, hI⟩ hlen
    have hd : 1 ≤ 4 - 1 - 1 := by omega
    have hB0 : Below w.heap.size w W := hI.below
    obtain ⟨⟨r4, f4, r5, f5⟩, _, hsW, ⟨pa, pcap, hv1, hv2⟩, fV⟩ := id hI
    have hx := x.2
    have hpl1 := allSeg_len hv
    rw [dataQ_len] at hpl1
    have hcnt : Lib.countB s ⟨#[47]⟩ + 1 ≤ 1048577 := by
      have h1 := congrArg List.length (HZp.out)
      rw [List.length_map, Lib.splitB_all _ (by decide) 0 _ s rfl] at h1
      have h2 := cutP_len 47 l
      have h3 := hs.size
      omega
    have hplb : pl.length ≤ 1048577 := by omega
    clear hpl1
    obtain ⟨L, hL⟩ : ∃ L, x.1.data.toList = L := ⟨_, rfl⟩
    have hLs : L.length ≤ 1048576 := by rw [← hL, size_data]; exact hx
    obtain ⟨hA1, hA2⟩ := cut_le L
    obtain ⟨m, hm⟩ := hmax.below hB0
    have hcu := Tryz.strings_Cut x.1 ⟨#[58]⟩ m W (by omega) hm
    rw [hL, show ((⟨#[58]⟩ : ByteArray).data.toList) = [58] from rfl] at hcu
    have hsg := segP_cut L
    obtain ⟨A, hA⟩ : ∃ A, (Lib.cut L [58]).1 = A := ⟨_, rfl⟩
    obtain ⟨B, hB⟩ : ∃ B, (Lib.cut L [58]).2.1 = B := ⟨_, rfl⟩
    obtain ⟨fb, hfb⟩ : ∃ fb, (Lib.cut L [58]).2.2 = fb := ⟨_, rfl⟩
    rw [hA, hB] at hsg hcu
    rw [hfb] at hcu
    rw [hA] at hA1
    rw [hB] at hA2
    have HCu : Hid (Calls Tryz.prog 30 #[.string x.1, .string ⟨#[58]⟩] W fun e w' => e = .returned (.tuple #[.string ⟨A.toArray⟩, .string ⟨B.toArray⟩, .bool fb]) ∧ Below W.heap.size W w') := hcu.mono fun e w' ⟨h1, n, h2⟩ => ⟨h1, by rw [h2]; exact below_drewN (Below.refl _ _) n⟩
    have HPN : Hid (∀ W', Below W.heap.size W W' → Calls Tryz.prog 31 #[.string ⟨A.toArray⟩] W' fun e w' => e = .returned (.tuple #[.int .i64 ((numP A).getD 0), .bool (numP A).isSome]) ∧ Below W.heap.size W w') := fun W' hW' =>
      (c_parseNumber ⟨A.toArray⟩ A (IsS.mk _) W' (htab.below (bthen hB0 hW')) (herr.below (bthen hB0 hW')) (by rw [(IsS.mk A).size]; omega)).mono fun e w' ⟨h1, h2⟩ => ⟨h1, bthen hW' h2⟩
    have HPP : Hid (∀ W', Below W.heap.size W W' → Calls Tryz.prog 32 #[.string ⟨B.toArray⟩] W' fun e w' => ∃ ua uc, e = .returned (.tuple #[.slice ua ((ppP B).getD []).length uc, .bool (ppP B).isSome]) ∧ OwnI w' W'.heap.size (.slice ua ((ppP B).getD []).length uc) ((ppP B).getD []) ∧ PtI w W0.heap.size pl w' ∧ Below W'.heap.size W' w' ∧ w'.cell? ⟨w.heap.size, 0, none⟩ = some (.slice none 0 0) ∧ w'.frozen? ⟨w.heap.size, 0, none⟩ = false ∧ w'.cell? ⟨w.heap.size + 1, 0, none⟩ = some (.bool false) ∧ w'.frozen? ⟨w.heap.size + 1, 0, none⟩ = false ∧ w'.cell? ⟨w.heap.size + 1 + 1, 0, none⟩ = some (.slice pa pl.length pcap) ∧ w'.frozen? ⟨w.heap.size + 1 + 1, 0, none⟩ = false) := fun W' hW' => by
      refine (c_ParsePoly ⟨B.toArray⟩ B (IsS.mk _) W' (htab.below (bthen hB0 hW')) (herr.below (bthen hB0 hW')) (hmax.below (bthen hB0 hW')) (by rw [(IsS.mk B).size]; omega)).mono ?_
      rintro e w' ⟨v, rfl, ho, hb⟩
      obtain ⟨ua, uc, rfl⟩ := RdI_formF (owns_RdI ho)
      have hI' := hI.kept (by omega) (bthen hW' hb)
      have hblk := (bthen hW' hb).block (w.heap.size + 1 + 1) (World.block_lt_of_cell? W _ hv1)
      exact ⟨ua, uc, rfl, ho, hI', hb, hI'.bx.r4, hI'.bx.f4, hI'.bx.r5, hI'.bx.f5, (World.cell?_of_block (a := ⟨w.heap.size + 1 + 1, 0, none⟩) hblk).trans hv1, hI'.fV⟩
    have HSN : Hid (allSeg (dataQ (pre ++ [x])) = match numP A, ppP B with
      | some c, some p => some (pl ++ [(c, p)])
      | _, _ => none) := by
      show _ = _
      rw [dataQ_snoc, allSeg_snoc, hv, hL, hsg]
      cases numP A <;> cases ppP B <;> rfl
    clear hcu hsg hL hA hB hfb hm
    cases hnA : numP A with
    | none =>
      have hno : Hid (allSeg (dataQ (pre ++ [x])) = none) := by show _ = _; rw [HSN.out, hnA]
      rw [hnA] at HPN
      cases hpB : ppP B with
      | none =>
        rw [hpB] at HPP
        gi_wp2_with (first
          | (refine ⟨trivial, ?_⟩; gi_at_call 30; refine (CallsIn.inRound l' (callsIn_wide.2 HCu.out)).mono ?_; rintro e w1 ⟨rfl, hB1⟩)
          | (refine ⟨trivial, ?_⟩; gi_at_call 31; refine (CallsIn.inRound l' (callsIn_wide.2 (HPN.out _ hB1))).mono ?_; rintro e w2 ⟨rfl, hB2⟩)
          | (refine ⟨trivial, ?_⟩; gi_at_call 32; refine (CallsIn.inRound l' (callsIn_wide.2 (HPP.out _ hB2))).mono ?_; rintro e w3 ⟨ua, uc, rfl, ho3, hI3, hB3, z4, z5, z6, z7, z8, z9⟩))
        exact ⟨((keepsOQ (bthen hB2 hB3)).trans (KeepsOthers.setCell _ _ _)).trans (KeepsOthers.setCell _ _ _), rfl, hno.out, (setQ_cells hI3.bx _ _).1, (setQ_cells hI3.bx _ _).2, setQ_below _ _ hI3.below⟩
      | some p =>
        rw [hpB] at HPP
        gi_wp2_with (first
          | (refine ⟨trivial, ?_⟩; gi_at_call 30; refine (CallsIn.inRound l' (callsIn_wide.2 HCu.out)).mono ?_; rintro e w1 ⟨rfl, hB1⟩)
          | (refine ⟨trivial, ?_⟩; gi_at_call 31; refine (CallsIn.inRound l' (callsIn_wide.2 (HPN.out _ hB1))).mono ?_; rintro e w2 ⟨rfl, hB2⟩)
          | (refine ⟨trivial, ?_⟩; gi_at_call 32; refine (CallsIn.inRound l' (callsIn_wide.2 (HPP.out _ hB2))).mono ?_; rintro e w3 ⟨ua, uc, rfl, ho3, hI3, hB3, z4, z5, z6, z7, z8, z9⟩))
        exact ⟨((keepsOQ (bthen hB2 hB3)).trans (KeepsOthers.setCell _ _ _)).trans (KeepsOthers.setCell _ _ _), rfl, hno.out, (setQ_cells hI3.bx _ _).1, (setQ_cells hI3.bx _ _).2, setQ_below _ _ hI3.below⟩
    | some c =>
      rw [hnA] at HPN
      cases hpB : ppP B with
      | none =>
        have hno : Hid (allSeg (dataQ (pre ++ [x])) = none) := by show _ = _; rw [HSN.out, hnA, hpB]
        rw [hpB] at HPP
        gi_wp2_with (first
          | (refine ⟨trivial, ?_⟩; gi_at_call 30; refine (CallsIn.inRound l' (callsIn_wide.2 HCu.out)).mono ?_; rintro e w1 ⟨rfl, hB1⟩)
          | (refine ⟨trivial, ?_⟩; gi_at_call 31; refine (CallsIn.inRound l' (callsIn_wide.2 (HPN.out _ hB1))).mono ?_; rintro e w2 ⟨rfl, hB2⟩)
          | (refine ⟨trivial, ?_⟩; gi_at_call 32; refine (CallsIn.inRound l' (callsIn_wide.2 (HPP.out _ hB2))).mono ?_; rintro e w3 ⟨ua, uc, rfl, ho3, hI3, hB3, z4, z5, z6, z7, z8, z9⟩))
        exact ⟨((keepsOQ (bthen hB2 hB3)).trans (KeepsOthers.setCell _ _ _)).trans (KeepsOthers.setCell _ _ _), rfl, hno.out, (setQ_cells hI3.bx _ _).1, (setQ_cells hI3.bx _ _).2, setQ_below _ _ hI3.below⟩
      | some p =>
        have hyes : Hid (allSeg (dataQ (pre ++ [x])) = some (pl ++ [(c, p)])) := by show _ = _; rw [HSN.out, hnA, hpB]
        rw [hpB] at HPP
        simp only [Option.getD_some, Option.isSome_some] at HPP HPN
        obtain ⟨rs, q1, q2, q3⟩ := hv2
        have hrl : rs.length ≤ 1048577 := by have := q2.1; omega
        have HQ2 := hidd q2
        have HQ3 := hidd q3
        have HAP : Hid (∀ (w2 w3 w4 : World) (ua : Option Addr) (uc : Nat) (v' : Value), Below W.heap.size W w2 → Below w2.heap.size w2 w3 → OwnI w3 w2.heap.size (.slice ua p.length uc) p → w3.cell? ⟨w.heap.size + 1 + 1, 0, none⟩ = some (.slice pa pl.length pcap) → w3.frozen? ⟨w.heap.size + 1 + 1, 0, none⟩ = false →
            w3.ownsRow W0.heap.size 44 2 (.slice pa pl.length pcap) rs.length (segCells rs) → W0.heap.size ≤ w3.heap.size → w4.ownsRow W0.heap.size 44 2 v' (rs.length + 1) (segCells rs ++ [.int .i64 c, .slice ua p.length uc]) → (w3.alloc (.cells #[.int .i64 c, .slice ua p.length uc] 44)).grownBy w4 (Value.slice pa pl.length pcap).ownBlock →
            ∃ va vcap, v' = .slice va (pl ++ [(c, p)]).length vcap ∧ OwP w4 W0.heap.size (.slice va (pl ++ [(c, p)]).length vcap) (pl ++ [(c, p)]) ∧ (w3.alloc (.cells #[.int .i64 c, .slice ua p.length uc] 44)).grownBy w4 (Value.slice pa pl.length pcap).ownBlock ∧ w4.cell? ⟨w.heap.size + 1 + 1, 0, none⟩ = some (.slice pa pl.length pcap) ∧ w4.frozen? ⟨w.heap.size + 1 + 1, 0, none⟩ = false) := by
          show ∀ _, _
          intro w2 w3 w4 ua uc v' hB2 hB3 ho3 z8 z9 q1c hs3 ho4 hg4
          have hal : Below w3.heap.size w3 (w3.alloc (.cells #[.int .i64 c, .slice ua p.length uc] 44)) := (Below.refl _ _).alloc (Nat.le_refl _) _
          have HO4 : OwP w4 W0.heap.size v' (pl ++ [(c, p)]) := OwP_snoc (wr := w2) (q1c.alloc _) ((HQ2.out.kept (bthen hB2 hB3)).kept hal) HQ3.out (fun k hk j hj => Nat.lt_of_lt_of_le (HQ2.out.lt k hk j hj) hB2.size) (ownsRow_kept_below ho3 hal) (Nat.le_trans hsW hB2.size) ho4 hg4
          obtain ⟨va, vcap, rfl, _⟩ := HO4.form
          have hl3 := World.block_lt_of_cell? w3 _ z8
          have hb4 : w4.heap[w.heap.size + 1 + 1]? = w3.heap[w.heap.size + 1 + 1]? := (hg4.block (w.heap.size + 1 + 1) (Nat.lt_of_lt_of_le hl3 hal.size) (fun e => by have := ((q1c.alloc (.cells #[.int .i64 c, .slice ua p.length uc] 44)).lt _ e.symm).1; omega)).trans (hal.block _ hl3)
          exact ⟨va, vcap, rfl, HO4, hg4, (World.cell?_of_block (a := ⟨w.heap.size + 1 + 1, 0, none⟩) hb4).trans z8, (World.frozen?_of_block (a := ⟨w.heap.size + 1 + 1, 0, none⟩) hb4).trans z9⟩
        clear q2 q3
        gi_wp2_with (first
          | (refine ⟨trivial, ?_⟩; gi_at_call 30; refine (CallsIn.inRound l' (callsIn_wide.2 HCu.out)).mono ?_; rintro e w1 ⟨rfl, hB1⟩)
          | (refine ⟨trivial, ?_⟩; gi_at_call 31; refine (CallsIn.inRound l' (callsIn_wide.2 (HPN.out _ hB1))).mono ?_; rintro e w2 ⟨rfl, hB2⟩)
          | (refine ⟨trivial, ?_⟩; gi_at_call 32; refine (CallsIn.inRound l' (callsIn_wide.2 (HPP.out _ hB2))).mono ?_; rintro e w3 ⟨ua, uc, rfl, ho3, hI3, hB3, z4, z5, z6, z7, z8, z9⟩; have q1c := ownsRow_kept_below q1 (bthen hB2 hB3); have hs3 : W0.heap.size ≤ w3.heap.size := hI3.size)
          | (gi_at_builtin; refine appNIn 23 44 Tryz.underlying23 infoSeg rfl (by decide) (by decide) rfl _ _ rfl W0.heap.size _ _ _ rfl (q1c.alloc _) _ _ _ rfl (RdN_seg w3 c (.slice ua _ uc)) (one_seg c ua _ uc) (by omega) (by simp; omega) ?_; intro v' w4 ho4 hg4 _; obtain ⟨va, vcap, rfl, HO4, hg5, y8, y9⟩ := HAP.out w2 w3 w4 ua uc v' hB2 hB3 ho3 z8 z9 q1c hs3 ho4 hg4))
        exact ⟨((keepsOQ ((bthen hB2 hB3).alloc (bthen hB2 hB3).size _)).trans (KeepsOthers.of_grownBy hg5 (own_cellsG (q1c.alloc _)))).trans (KeepsOthers.setCell _ _ _), keepsC_appG ((bthen hB2 hB3).alloc (bthen hB2 hB3).size _) (by omega) (by omega) (by omega) hsW (q1c.alloc _) hg5, pl ++ [(c, p)], hyes.out, by have q := (hI3.kept (by omega) ((Below.refl _ _).alloc (Nat.le_refl _) _)).app (by omega) (q1c.alloc _) hg5 HO4; rw [List.length_append] at q; exact q⟩
  case done =>
    rintro D xs W hD hS ⟨pl, hv, hI⟩ hK
    have hdat : dataQ xs = cutP 47 l := by
      rw [← HZp.out, ← hS, List.map_map]; rfl
    rw [hdat] at hv
    have hplan := plan_yes hv
    have hpx := allSeg_pl hv
    have hpl1 := allSeg_len hv
    have hlc := cutP_len 47 l
    have hls := hs.size
    have hplb : pl.length ≤ 1048577 := by omega
    have hBA : Below w.heap.size w W := hI.below
    obtain ⟨⟨r4, f4, r5, f5⟩, _, hsW, ⟨pa, pcap, hv1, hv2⟩, fV⟩ := id hI
    have hPV : Hid (Calls Tryz.prog 8 #[.slice pa pl.length pcap] W fun e w' => e = .returned (.bool (planB pl)) ∧ PtB w w' ∧ w'.cell? ⟨w.heap.size + 1 + 1, 0, none⟩ = some (.slice pa pl.length pcap) ∧ OwP w' W0.heap.size (.slice pa pl.length pcap) pl ∧ w'.heap[D]? = some (.deferred (some [])) ∧ Below w.heap.size w w') := by
      refine (c_impl_PlanValid (.slice pa pl.length pcap) pl W hv2.rd (by omega) (fun s hs => by have := hpx s hs; omega)).mono ?_
      rintro e w' ⟨rfl, hB⟩
      have hDl : D < W.heap.size := (Array.getElem?_eq_some_iff.1 hK).1
      have hi := hI.kept (by omega) hB
      exact ⟨rfl, hi.bx, (World.cell?_of_block (a := ⟨w.heap.size + 1 + 1, 0, none⟩) (hB.block _ (World.block_lt_of_cell? W _ hv1))).trans hv1, hv2.kept hB, (hB.block D hDl).trans hK, hi.below⟩
    obtain ⟨Bp, hBp⟩ : ∃ Bp, planB pl = Bp := ⟨_, rfl⟩
    rw [hBp] at hPV hplan
    have HPL := hidd hplan
    clear hpx hpl1 hv2 hBp hplan
    gi_wp2_with (fail)
    refine ⟨trivial, ?_⟩
    refine (callsIn_wide.2 hPV.out).mono ?_
    rintro e w5 ⟨rfl, hbx5, hv5, ho5, hK5, hB5⟩
    obtain ⟨r4', f4', r5', f5'⟩ := id hbx5
    cases Bp
    · have HP : Hid (planP l = none) := HPL.out
      obtain ⟨hK', c4, c5, hF⟩ := setQ_leave hbx5 hK5 (by omega) hB5 (.slice none 0 0) false
      gi_wp2
      unfold setQ at hK' c4 c5 hF
      refine ⟨by simp, .inl ⟨_, _, rfl, run_takeDeferred hK', ?_⟩⟩
      exact ⟨.tuple #[.slice none 0 0, .bool false], by simp [results, Tryz.f9, go_sem, c4, c5], _, by rw [HP.out]; rfl, by rw [HP.out]; exact OwP.nil _ _, hF⟩
    · have HP : Hid (planP l = some pl) := HPL.out
      obtain ⟨hK', c4, c5, hF⟩ := setQ_leave hbx5 hK5 (by omega) hB5 (.slice pa pl.length pcap) true
      have ho6 := setQ_own (v := .slice pa pl.length pcap) (b := true) ho5 (by omega) hK'
      gi_wp2
      unfold setQ at hK' c4 c5 hF ho6
      refine ⟨by simp, .inl ⟨_, _, rfl, run_takeDeferred hK', ?_⟩⟩
      exact ⟨.tuple #[.slice pa pl.length pcap, .bool true], by simp [results, Tryz.f9, go_sem, c4, c5], _, by rw [HP.out]; rfl, by rw [HP.out]; exact ho6, hF⟩
  case stop =>
    rintro D c pre W hD hpre ⟨rfl, hnone, hX⟩ hK
    obtain ⟨rest, hrest⟩ := hpre
    have hall : allSeg (cutP 47 l) = none := by
      have h1 : cutP 47 l = dataQ pre ++ rest.map (·.data.toList) := by
        rw [← HZp.out, ← hrest, List.map_append, List.map_map]; rfl
      rw [h1]
      exact allSeg_none _ _ hnone
    have h0 := plan_no hall
    rw [h0]
    obtain ⟨c4, c5, hB⟩ := hX
    have c4' := (World.cell?_of_block (w := W) (w' := W.putObj D (.deferred none)) (a := ⟨w.heap.size, 0, none⟩) (World.putObj_heap_other (by show w.heap.size ≠ D; omega))).trans c4
    have c5' := (World.cell?_of_block (w := W) (w' := W.putObj D (.deferred none)) (a := ⟨w.heap.size + 1, 0, none⟩) (World.putObj_heap_other (by show w.heap.size + 1 ≠ D; omega))).trans c5
    have hF : Below w.heap.size w (W.putObj D (.deferred none)) := hB.grown (grownBy_putObj' _ D (.deferred none)) hB.size (fun k e => by cases e; omega)
    gi_wp2
    refine ⟨by simp, .inl ⟨_, _, rfl, run_takeDeferred hK, ?_⟩⟩
    exact ⟨.tuple #[.slice none 0 0, .bool false], by simp [results, Tryz.f9, go_sem, c4', c5'], _, rfl, OwP.nil _ _, hF⟩
end Go.Proofs.YtdfnclnjnmdboaaGreatDoor
