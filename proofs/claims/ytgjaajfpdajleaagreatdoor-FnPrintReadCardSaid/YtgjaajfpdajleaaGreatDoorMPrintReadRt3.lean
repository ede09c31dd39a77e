/- Lemmas and contracts for PrintRead (Rt3 Rt4): plain words on memory, contracts of the functions that the law reaches. No condition but what each states. -/
import Derived.Test.YtgjaajfpdajleaaGreatDoorMPrintReadSq1
import Derived.Test.YtgjaajfpdajleaaGreatDoorMPrintReadRt1
import Derived.Test.YtgjaajfpdajleaaGreatDoorMPrintReadRp3
import Derived.Test.YtgjaajfpdajleaaGreatDoorMPrintReadBld2
import Derived.RangeFuncBox
import Derived.Shelf.RegionOpen
import Derived.RangeFuncCalls
namespace Go.Proofs.YtgjaajfpdajleaaGreatDoor
set_option linter.unusedVariables false
open Go.RowKit Go.Shelf
attribute [local go_sem] Oper.semAt_some

/-! ### the program's reading, piece by piece -/
theorem imP_snoc (C R A : Nat) (l : List (List UInt8)) (p : List UInt8) (v : List Int) : imP C R A (l ++ [p]) v = (imP C R A l v).bind (fun u => if rdB (cutS 10 p) C R A = true then some (u ++ celV (cutS 10 p) C A) else none) := by
  induction l generalizing v with
  | nil => simp [imP]
  | cons q l ih =>
    rw [List.cons_append, imP, imP]
    by_cases h : rdB (cutS 10 q) C R A = true
    · rw [if_pos h, if_pos h, ih]
    · rw [if_neg h, if_neg h]; rfl
theorem imP_none (C R A : Nat) (l r : List (List UInt8)) (v : List Int) (h : imP C R A l v = none) : imP C R A (l ++ r) v = none := by
  induction l generalizing v with
  | nil => simp [imP] at h
  | cons q l ih =>
    rw [List.cons_append, imP]
    rw [imP] at h
    by_cases hb : rdB (cutS 10 q) C R A = true
    · rw [if_pos hb] at h ⊢; exact ih _ h
    · rw [if_neg hb]
def sumP (l : List (List UInt8)) : Nat := (l.map fun p => p.length + 1).sum
theorem sumP_snoc (l : List (List UInt8)) (p : List UInt8) : sumP (l ++ [p]) = sumP l + (p.length + 1) := by simp [sumP]
theorem celV_cut (p : List UInt8) (C A : Nat) (hA : A ≤ 6) : (celV (cutS 10 p) C A).length ≤ 6 * (p.length + 1) :=
  Nat.le_trans (celV_len _ _ _) (Nat.mul_le_mul hA (cutS_len 10 p))
theorem sumP_split (sep : ByteArray) (h1 : 1 ≤ sep.size) : ∀ (k : Nat) (s : ByteArray), sumP ((Lib.splitB sep 0 k s).map (·.data.toList)) ≤ s.size + 1
  | 0, s => by
    have := size_data s
    rw [Lib.splitB_zero]
    simp only [sumP, List.map_cons, List.map_nil, List.sum_cons, List.sum_nil]
    omega
  | k + 1, s => by
    rcases Lib.indexB_cases s sep with hix | ⟨i, hix, hib⟩
    · have := size_data s
      rw [Lib.splitB_miss sep 0 (k + 1) s hix]
      simp only [sumP, List.map_cons, List.map_nil, List.sum_cons, List.sum_nil]
      omega
    · rw [Lib.splitB_hit sep 0 k s i hix]
      have h := sumP_split sep h1 k (s.extract (i + sep.size) s.size)
      rw [ByteArray.size_extract] at h
      have h2 : (s.extract 0 (i + 0)).size = i := by rw [ByteArray.size_extract]; omega
      rw [← size_data] at h2
      simp only [List.map_cons, sumP, List.sum_cons] at h ⊢
      rw [h2]
      omega
theorem sumP_len (l : List (List UInt8)) : l.length ≤ sumP l := by
  induction l with
  | nil => simp [sumP]
  | cons q l ih => simp only [sumP, List.map_cons, List.sum_cons, List.length_cons] at ih ⊢; omega
theorem splitB_cut (x : ByteArray) : Lib.splitB ⟨#[10]⟩ 0 (Lib.countB x ⟨#[10]⟩) x = cutS 10 x.data.toList := by
  have h1 := Lib.splitB_data ⟨#[10]⟩ 0 (Lib.countB x ⟨#[10]⟩) x
  have h2 : Lib.splitK [10] 0 (Lib.count x.data.toList [10]) x.data.toList = cutP 10 x.data.toList := split_one 10 x.data.toList
  unfold cutS
  rw [← h2]
  have h3 : Lib.splitK [10] 0 (Lib.count x.data.toList [10]) x.data.toList = (Lib.splitB ⟨#[10]⟩ 0 (Lib.countB x ⟨#[10]⟩) x).map (·.data.toList) := h1.symm
  rw [h3, List.map_map, show (bytS ∘ fun x : ByteArray => x.data.toList) = id from funext fun x => bytS_of x]
  simp
/-- the pieces of the program's reading -/
theorem pieces_eq (T : ByteArray) (l : List UInt8) (hT : IsS T (Lib.trimSuffix l [10])) : (Lib.splitB ⟨#[10, 10]⟩ 0 (Lib.countB T ⟨#[10, 10]⟩) T).map (·.data.toList) = imG l := by
  rw [Lib.splitB_data]
  unfold imG
  rw [← show T.data.toList = Lib.trimSuffix l [10] from hT]
  rfl
theorem cells_heap {W W' : World} (h : W'.heap = W.heap) (p : Addr) : W'.cell? p = W.cell? p := World.cell?_of_block (by rw [h])

set_option maxRecDepth 20000 in
theorem c_Split10 (x : ByteArray) (W : World) (hm : MaxW W) (hx : x.size ≤ 1048576) : Calls Tryz.prog 49 #[.string x, .string ⟨#[10]⟩] W (FreshS W (cutS 10 x.data.toList)) := by
  obtain ⟨m, hm⟩ := hm
  refine (Tryz.strings_Split x ⟨#[10]⟩ m W (by omega) hm (by decide)).mono ?_
  rintro e w' ⟨rfl, rfl⟩
  rw [splitB_cut]
  have hl : Lib.countB x ⟨#[10]⟩ + 1 = (cutS 10 x.data.toList).length := by
    rw [← splitB_cut, Lib.splitB_all _ (by decide) 0 _ x rfl]
  have hl2 := cutS_len 10 x.data.toList
  rw [size_data] at hl2
  rw [hl]
  refine ⟨_, rfl, ?_, (Below.refl _ _).alloc (Nat.le_refl _) _⟩
  refine ⟨by simp, .inr ⟨W.heap.size, _, _, rfl, Nat.le_refl _, World.alloc_heap_new _ _, Nat.le_refl _, by simp only [maxLen]; omega, by simp, by simp; exact List.take_of_length_le (by simp)⟩⟩
theorem c_readLinesB (R A C : Nat) (v : Value) (ys : List ByteArray) (w : World) (htab : TabW w) (herr : ErrW w) (ha : RdS w v ys) (hs : ∀ y ∈ ys, y.size ≤ 1048576) (hl : layB R A C = true) :
    Calls Tryz.prog 48 #[(.agg #[.int .i64 (R : Int), .int .i64 (A : Int), .int .i64 (C : Int)]), v] w (FreshIB w (rlF ys C R A) (rdB ys C R A)) := by
  by_cases hx : ys.length ≤ 1048576
  · exact c_readLines R A C v ys w htab herr ha hx hs hl
  · obtain ⟨b, cap, rfl, _⟩ := ha
    obtain ⟨l1, l2, l3, l4, l5, l6, l7, l8⟩ := lay_mul hl
    simp only [List.length_map]
    have h0 : rdB ys C R A = false := by unfold rdB; rw [decide_eq_false (by omega)]; rfl
    have hf : rlF ys C R A = [] := by unfold rlF; rw [h0]; rfl
    have g1 : (R : Int) < (ys.length : Int) := by omega
    rw [h0, hf]
    clear h0 hf hl
    go_enter Tryz.func48, Tryz.ntmps48
    go_wp2
    go_ret2
    exact ⟨_, rfl, OwnI_nil _ _, (Below.refl _ _).alloc (Nat.le_refl _) _⟩
theorem rdV_rl {ys : List ByteArray} {C R A : Nat} (h : rdB ys C R A = true) : rlF ys C R A = celV ys C A := by unfold rlF; rw [h]; rfl
end Go.Proofs.YtgjaajfpdajleaaGreatDoor

namespace Go.Proofs.YtgjaajfpdajleaaGreatDoor
set_option linter.unusedVariables false
open Go.RowKit Go.Shelf
attribute [local go_sem] Oper.semAt_some

def rtW (w : World) (r a c : Int) : World := ((w.alloc (.cells #[(.int .i64 (r)), (.int .i64 (a)), (.int .i64 (c))] 27)).alloc (.cells #[.slice none 0 0] 24)).alloc (.cells #[.bool false] 4)
/-- the layout's box and the results' cells -/
structure RtB (w W : World) (r a c : Int) : Prop where
  k0 : W.cell? ⟨w.heap.size, 0, none⟩ = some (.int .i64 (r))
  k1 : W.cell? ⟨w.heap.size, 1, none⟩ = some (.int .i64 (a))
  k2 : W.cell? ⟨w.heap.size, 2, none⟩ = some (.int .i64 (c))
  r4 : W.cell? ⟨w.heap.size + 1, 0, none⟩ = some (.slice none 0 0)
  f4 : W.frozen? ⟨w.heap.size + 1, 0, none⟩ = false
  r5 : W.cell? ⟨w.heap.size + 1 + 1, 0, none⟩ = some (.bool false)
  f5 : W.frozen? ⟨w.heap.size + 1 + 1, 0, none⟩ = false
theorem rtW_box (w : World) (r a c : Int) : RtB w (rtW w r a c) r a c := by
  constructor <;> simp [rtW, go_sem]
theorem rtW_size (w : World) (r a c : Int) : (rtW w r a c).heap.size = w.heap.size + 3 := by simp [rtW]
theorem rtW_below (w : World) (r a c : Int) : Below w.heap.size w (rtW w r a c) := (((Below.refl _ _).alloc (Nat.le_refl _) _).alloc (by simp) _).alloc (by simp; omega) _
theorem RtB.kept {w W W' : World} {r a c : Int} (h : RtB w W r a c) (hk : ∀ k, k < w.heap.size + 3 → W'.heap[k]? = W.heap[k]?) : RtB w W' r a c := by
  obtain ⟨h0, h1, h2, h3, h4, h5, h6⟩ := h
  have q0 := hk w.heap.size (by omega)
  have q1 := hk (w.heap.size + 1) (by omega)
  have q2 := hk (w.heap.size + 1 + 1) (by omega)
  exact ⟨(World.cell?_of_block q0).trans h0, (World.cell?_of_block q0).trans h1, (World.cell?_of_block q0).trans h2, (World.cell?_of_block q1).trans h3,
    (World.frozen?_of_block q1).trans h4, (World.cell?_of_block q2).trans h5, (World.frozen?_of_block q2).trans h6⟩
/-- both results are stored -/
def setR (w W : World) (v : Value) (b : Bool) : World := (W.setCell ⟨w.heap.size + 1, 0, none⟩ v).setCell ⟨w.heap.size + 1 + 1, 0, none⟩ (.bool b)
theorem setR_other (w W : World) (v : Value) (b : Bool) (k : Nat) (h1 : k ≠ w.heap.size + 1) (h2 : k ≠ w.heap.size + 1 + 1) : (setR w W v b).heap[k]? = W.heap[k]? :=
  (heap_set_other _ _ _ _ h2).trans (heap_set_other _ _ _ _ h1)
theorem setR_cells {w W : World} {r a c : Int} (h : RtB w W r a c) (v : Value) (b : Bool) : (setR w W v b).cell? ⟨w.heap.size + 1, 0, none⟩ = some v ∧ (setR w W v b).cell? ⟨w.heap.size + 1 + 1, 0, none⟩ = some (.bool b) := by
  have e5 := (World.cell?_of_block (a := ⟨w.heap.size + 1 + 1, 0, none⟩) (heap_set_other W (w.heap.size + 1) (w.heap.size + 1 + 1) v (by omega))).trans h.r5
  refine ⟨?_, World.cell?_setCell_same' _ _ _ (by rw [e5]; rfl)⟩
  refine (World.cell?_of_block (a := ⟨w.heap.size + 1, 0, none⟩) (heap_set_other _ (w.heap.size + 1 + 1) (w.heap.size + 1) _ (by omega))).trans ?_
  exact World.cell?_setCell_same' _ _ _ (by rw [h.r4]; rfl)
theorem setR_below {w W : World} (v : Value) (b : Bool) (h : Below w.heap.size w W) : Below w.heap.size w (setR w W v b) :=
  (h.setCell (p := ⟨w.heap.size + 1, 0, none⟩) (by show w.heap.size ≤ w.heap.size + 1; omega) v).setCell (p := ⟨w.heap.size + 1 + 1, 0, none⟩) (by show w.heap.size ≤ w.heap.size + 1 + 1; omega) _

def dataP (pre : List PieceB) : List (List UInt8) := pre.map fun x => x.1.data.toList
theorem dataP_snoc (pre : List PieceB) (x : PieceB) : dataP (pre ++ [x]) = dataP pre ++ [x.1.data.toList] := by simp [dataP]
/-- between two rounds: the box, the results' cells, the values read so far -/
structure RtI (w : World) (V base : Nat) (r a c : Int) (vs : List Int) (W : World) : Prop where
  bx : RtB w W r a c
  below : Below w.heap.size w W
  size : base ≤ W.heap.size
  val : ∃ p cap, W.cell? ⟨V, 0, none⟩ = some (.slice p vs.length cap) ∧ OwnI W base (.slice p vs.length cap) vs
  fV : W.frozen? ⟨V, 0, none⟩ = false
theorem own_noncell {W W' : World} {base e n : Nat} {v : Value} {xs : List Value} {row : Option Nat} (h : W.ownsRow base e 1 v n xs) (hg : W.grownBy W' row) (hr : ∀ r, row = some r → ∃ o : Obj, W.heap[r]? = some o ∧ o.isCells = false) : W'.ownsRow base e 1 v n xs := by
  refine h.kept hg ?_
  rcases h.2 with ⟨rfl, _⟩ | ⟨g, cap, cur, rfl, _, hh, _⟩
  · exact .inl rfl
  · refine .inr (fun q => ?_)
    obtain ⟨o, ho, hc⟩ := hr g q.symm
    rw [hh] at ho
    cases ho
    cases hc
theorem RtI.grown {w W W' : World} {V base : Nat} {r a c : Int} {vs : List Int} {row : Option Nat} (h : RtI w V base r a c vs W) (hV : V < base) (hw : w.heap.size + 3 ≤ base) (hg : W.grownBy W' row) (hr : ∀ k, row = some k → base ≤ k ∧ ∃ o : Obj, W.heap[k]? = some o ∧ o.isCells = false) : RtI w V base r a c vs W' := by
  have hs := h.size
  have hblk : ∀ k, k < base → W'.heap[k]? = W.heap[k]? := fun k hk => hg.block k (by omega) (fun e => by have := (hr k e.symm).1; omega)
  obtain ⟨p, cap, h1, h2⟩ := h.val
  refine ⟨h.bx.kept (fun k hk => hblk k (by omega)), h.below.grown hg h.below.size (fun k hk => by have := (hr k hk).1; omega), Nat.le_trans hs hg.size, ⟨p, cap, (World.cell?_of_block (hblk V hV)).trans h1, own_noncell h2 hg (fun k hk => (hr k hk).2)⟩, (World.frozen?_of_block (hblk V hV)).trans h.fV⟩
theorem RtI.setc {w W : World} {V base k : Nat} {r a c : Int} {vs : List Int} (h : RtI w V base r a c vs W) (h1 : w.heap.size + 3 ≤ k) (h2 : V < k) (h3 : k < base) (v : Value) : RtI w V base r a c vs (W.setCell ⟨k, 0, none⟩ v) := by
  have hblk : ∀ j, j ≠ k → (W.setCell ⟨k, 0, none⟩ v).heap[j]? = W.heap[j]? := fun j hj => heap_set_other _ _ _ _ hj
  obtain ⟨p, cap, g1, g2⟩ := h.val
  refine ⟨h.bx.kept (fun j hj => hblk j (by omega)), h.below.setCell (p := ⟨k, 0, none⟩) (by show w.heap.size ≤ k; omega) v, by have := h.size; simpa [World.setCell] using this, ⟨p, cap, (World.cell?_of_block (hblk V (by omega))).trans g1, ownsRow_kept_new g2 (grownBy_setCell _ _ _ _) (fun j hj => by cases hj; exact h3)⟩, (World.frozen?_of_block (hblk V (by omega))).trans h.fV⟩
/-- a round has left: nothing is returned -/
def RtX (w : World) (W : World) : Prop := W.cell? ⟨w.heap.size + 1, 0, none⟩ = some (.slice none 0 0) ∧ W.cell? ⟨w.heap.size + 1 + 1, 0, none⟩ = some (.bool false) ∧ Below w.heap.size w W
theorem RtX.grown {w W W' : World} {base : Nat} {row : Option Nat} (h : RtX w W) (hw : w.heap.size + 3 ≤ base) (hg : W.grownBy W' row) (hr : ∀ k, row = some k → base ≤ k) : RtX w W' := by
  obtain ⟨h1, h2, h3⟩ := h
  have l1 := World.block_lt_of_cell? W _ h1
  have l2 := World.block_lt_of_cell? W _ h2
  have q1 := hg.block (w.heap.size + 1) l1 (fun e => by have := hr _ e.symm; omega)
  have q2 := hg.block (w.heap.size + 1 + 1) l2 (fun e => by have := hr _ e.symm; omega)
  exact ⟨(World.cell?_of_block q1).trans h1, (World.cell?_of_block q2).trans h2, h3.grown hg h3.size (fun k hk => by have := hr k hk; omega)⟩

theorem keepsO {W W' : World} (h : Below W.heap.size W W') : KeepsOthers W W' := ⟨h.size, fun k o hk _ => (h.block k (Array.getElem?_eq_some_iff.1 hk).1).trans hk⟩
theorem own_cells {W : World} {base e n : Nat} {v : Value} {xs : List Value} (h : W.ownsRow base e 1 v n xs) (j : Nat) (o : Obj) (hj : v.ownBlock = some j) (ho : W.heap[j]? = some o) : o.isCells = true := by
  rcases h.2 with ⟨rfl, _⟩ | ⟨g, cap, cur, rfl, _, hh, _⟩
  · cases hj
  · simp only [Value.ownBlock, Option.some.injEq] at hj
    subst hj
    rw [hh] at ho
    cases ho
    rfl
theorem own_capR {W : World} {base e n cap : Nat} {p : Option Addr} {xs : List Value} (h : W.ownsRow base e 1 (.slice p n cap) n xs) : n ≤ cap ∧ cap ≤ 9223372036854775807 := by
  rcases h.2 with ⟨hv, hn⟩ | ⟨g, cap', cur, hv, _, _, h1, h2, _⟩
  · cases hv; exact ⟨Nat.le_refl _, by omega⟩
  · cases hv; simp only [maxLen] at h2; exact ⟨h1, by omega⟩
theorem RtI.kept {w W W' : World} {V base : Nat} {r a c : Int} {vs : List Int} (h : RtI w V base r a c vs W) (hV : V < base) (hw : w.heap.size + 3 ≤ base) (hB : Below W.heap.size W W') : RtI w V base r a c vs W' := by
  have hs := h.size
  obtain ⟨p, cap, h1, h2⟩ := h.val
  have hv := hB.block V (by omega)
  exact ⟨h.bx.kept (fun k hk => hB.block k (by omega)), bthen h.below hB, Nat.le_trans hs hB.size, ⟨p, cap, (World.cell?_of_block hv).trans h1, ownsRow_kept_below h2 hB⟩, (World.frozen?_of_block hv).trans h.fV⟩
theorem RtI.app {w W W' : World} {V base cap : Nat} {p : Option Addr} {r a c : Int} {vs us : List Int} {v : Value} (h : RtI w V base r a c vs W) (hV : V < base) (hw : w.heap.size + 3 ≤ V) (hv : OwnI W base v vs) (hg : W.grownBy W' v.ownBlock)
    (ho : OwnI W' base (.slice p (vs ++ us).length cap) (vs ++ us)) : RtI w V base r a c (vs ++ us) (W'.setCell ⟨V, 0, none⟩ (.slice p (vs ++ us).length cap)) := by
  have hs := h.size
  have hblk : ∀ k, k < base → W'.heap[k]? = W.heap[k]? := fun k hk => hg.block k (by omega) (fun e => by have := (hv.lt k e.symm).1; omega)
  have hblk2 : ∀ k, k < base → k ≠ V → (W'.setCell ⟨V, 0, none⟩ (.slice p (vs ++ us).length cap)).heap[k]? = W.heap[k]? := fun k hk hk2 => (heap_set_other _ _ _ _ hk2).trans (hblk k hk)
  obtain ⟨p0, cap0, h1, h2⟩ := h.val
  have h1' : W'.cell? ⟨V, 0, none⟩ = some (.slice p0 vs.length cap0) := (World.cell?_of_block (hblk V hV)).trans h1
  have hBw : Below w.heap.size w W' := h.below.grown hg h.below.size (fun k hk => by have := (hv.lt k hk).1; omega)
  refine ⟨h.bx.kept (fun k hk => hblk2 k (by omega) (by omega)), hBw.setCell (p := ⟨V, 0, none⟩) (by show w.heap.size ≤ V; omega) _, by have := hg.size; simp [World.setCell]; omega,
    ⟨p, cap, World.cell?_setCell_same' _ _ _ (by rw [h1']; rfl), ownsRow_kept_new ho (grownBy_setCell _ _ _ _) (fun j hj => by cases hj; exact hV)⟩, ?_⟩
  rw [World.frozen?_setCell]
  exact (World.frozen?_of_block (hblk V hV)).trans h.fV

theorem keepsC_app {B c V base e n : Nat} {W W2 W3 : World} {v u : Value} {xs : List Value} (hB2 : Below W.heap.size W W2) (h1 : c + 3 ≤ base) (h2 : B ≤ V) (h3 : V < c) (h4 : base ≤ W.heap.size) (hv : W2.ownsRow base e 1 v n xs) (hg : W2.grownBy W3 v.ownBlock) : KeepsC B c W (W3.setCell ⟨V, 0, none⟩ u) := by
  refine ⟨by have := hB2.size; have := hg.size; simp [World.setCell]; omega, fun k hk => ?_⟩
  have h5 : k < base := by omega
  have := hB2.size
  exact ((heap_set_other _ _ _ _ (by omega)).trans (hg.block k (by omega) (fun q => by have := (hv.lt k q.symm).1; omega))).trans (hB2.block k (by omega))
theorem sumP_data (pre : List PieceB) : sumP (dataP pre) ≤ pre.length * 1048577 := by
  induction pre with
  | nil => simp [sumP, dataP]
  | cons x pre ih =>
    have h1 := x.2
    have h2 := size_data x.1
    simp only [sumP, dataP, List.map_cons, List.sum_cons, List.length_cons] at ih ⊢
    rw [Nat.add_mul]
    omega

/-- the function leaves with v and b in its results' cells; the block D of the loop's deferred calls is shut -/
theorem setR_leave {w W : World} {r a c : Int} {D : Nat} (hb : RtB w W r a c) (hK : W.heap[D]? = some (.deferred (some []))) (hD : w.heap.size + 3 ≤ D) (hB : Below w.heap.size w W) (v : Value) (b : Bool) :
    (setR w W v b).heap[D]? = some (.deferred (some [])) ∧ ((setR w W v b).putObj D (.deferred none)).cell? ⟨w.heap.size + 1, 0, none⟩ = some v ∧ ((setR w W v b).putObj D (.deferred none)).cell? ⟨w.heap.size + 1 + 1, 0, none⟩ = some (.bool b) ∧ Below w.heap.size w ((setR w W v b).putObj D (.deferred none)) := by
  have h1 : (setR w W v b).heap[D]? = some (.deferred (some [])) := (setR_other w W v b D (by omega) (by omega)).trans hK
  obtain ⟨c4, c5⟩ := setR_cells hb v b
  exact ⟨h1, (World.cell?_of_block (World.putObj_heap_other (by show w.heap.size + 1 ≠ D; omega))).trans c4, (World.cell?_of_block (World.putObj_heap_other (by show w.heap.size + 1 + 1 ≠ D; omega))).trans c5,
    (setR_below v b hB).grown (grownBy_putObj' _ D (.deferred none)) (setR_below v b hB).size (fun k e => by cases e; omega)⟩
theorem setR_own {w W : World} {base D : Nat} {v u : Value} {b : Bool} {xs : List Int} (h : OwnI W base u xs) (hb : w.heap.size + 3 ≤ base) (hK : (setR w W v b).heap[D]? = some (.deferred (some []))) : OwnI ((setR w W v b).putObj D (.deferred none)) w.heap.size u xs := by
  have h1 : OwnI (setR w W v b) base u xs := ownsRow_kept_new (ownsRow_kept_new h (grownBy_setCell _ _ _ _) (fun k e => by cases e; omega)) (grownBy_setCell _ _ _ _) (fun k e => by cases e; omega)
  exact ownsRow_mono (ownsRow_putObj h1 _ hK rfl) (by omega)

/-- append(s, u...) in a round: the elements of a row of the call's own, nil or not -/
theorem sprIn {F : Fence} {fuel : Nat} {P : Program} {ops : Array Oper} {rest : List Oper} {o : Oper} {a : Act} {Q : Exit → Act → World → Prop} {w : World} (t e : TypeId) {z : Value} {bytes : Nat}
    (ht : P.underlying t = some (.slice e)) (hi : (P.info? e).map (fun i => (i.zero, i.size, i.bytes)) = some (some z, 1, bytes)) (hz : z.cells.size = 1)
    (hgd : o.guard = none) (s x : Operand) (hop : o.op = .call { callee := .builtin .append, args := #[s, x], argTypes := #[t, t] })
    (base : Nat) (v : Value) (n : Nat) (xs : List Value) (hs : a.eval s = v) (hown : w.ownsRow base e 1 v n xs)
    (base2 : Nat) (u : Value) (m : Nat) (news : List Value) (hx : a.eval x = u) (hu : w.ownsRow base2 e 1 u m news) (h1 : ∀ y ∈ news, y.oneCell' = true) (hn : n + m ≤ 9223372036854775807) (hby : (n + m) * bytes ≤ 140737488355328) (hbase : base ≤ w.heap.size)
    (h : ∀ v' w', w'.ownsRow base e 1 v' (n + m) (xs ++ news) → w.grownBy w' v.ownBlock → InOld w v v' → wpListIn F fuel P ops Q rest (a.put o.dst v') w') : wpListIn F fuel P ops Q (o :: rest) a w := by
  obtain ⟨i0, hi0, hz0, hz1, hz2⟩ := info_parts hi
  refine wpListIn_plain hgd fun K hK' => ?_
  have hrun : ∃ v' w', (Builtin.append_ #[t, t] o.type #[v, u]).run P w = .ok v' w' ∧ w'.ownsRow base e 1 v' (n + m) (xs ++ news) ∧ w.grownBy w' v.ownBlock ∧ InOld w v v' := by
    have hu0 := hu
    rcases hu.2 with ⟨rfl, rfl⟩ | ⟨g, cap, cur, rfl, hg, hh, hr⟩
    · have hnil : news = [] := List.eq_nil_of_length_eq_zero (by have := hu.1; simpa using this)
      subst hnil
      exact ⟨v, w, run_append_owned_none w base t o.type e i0 1 ht hi0 v n xs hown, by simpa using hown, World.grownBy.refl w _, .inl rfl⟩
    · exact run_append_own_at w base t o.type e i0 z 1 bytes ht hi0 hz0 hz1 hz2 hz (by decide) v n xs hown ⟨g, 0, none⟩ m cap news hu0.1 (hu0.cells (g := g) rfl) h1 (by simp only [maxLen]; omega) hby hbase
  obtain ⟨v', w', hrun, r1, r2, r3⟩ := hrun
  unfold Oper.wpIn
  refine ⟨?_, ?_⟩
  · simp [Oper.about, hop, resolve, Target.leads, Sem.run_pure]
  · rw [Oper.semAt_plain F _ _ (by rw [hop]; intro c hc'; cases hc')]
    simp [execOp, hop, resolve, invoke, builtin, hs, hx, hrun, Result.andThen]
    exact hK' _ _ (h v' w' r1 r2 r3)

set_option maxRecDepth 100000 in
set_option maxHeartbeats 3200000 in
theorem c_impl_ReadTable (r a c : Int) (s : ByteArray) (l : List UInt8) (hs : IsS s l) (w : World) (htab : TabW w) (herr : ErrW w) (hmax : MaxW w) (hsz : s.size ≤ 1048576) :
    Calls Tryz.prog 12 #[(.agg #[.int .i64 r, .int .i64 a, .int .i64 c]), .string s] w (FreshIB w (rdtV r a c l) (rdtB r a c l)) := by
  have hNo : ∀ h : rdtB r a c l = false, rdtV r a c l = [] := fun h => by unfold rdtV; rw [h]; rfl
  refine (callsIn_wide (n := 4)).1 ?_
  refine callsIn_of_wp_marks Tryz.func12 rfl trivial ?_ rfl
  simp only [Tryz.ntmps12, List.size_toArray, List.length_cons, List.length_nil, Nat.reduceAdd, Nat.reduceSub, Array.replicate_succ, Array.replicate_zero, List.push_toArray, List.append_toArray, List.nil_append, List.cons_append]
  have hn4 : 1 ≤ 4 := by omega
  cases hl : layB r a c
  · have h0 := rt_no_lay (t := l) hl
    rw [hNo h0, h0]
    clear h0 hNo
    have hc := fun W => c_impl_LayoutValid r a c W
    rw [hl] at hc
    gi_wp2_with (refine ⟨trivial, ?_⟩; gi_at_call 45; refine (callsIn_wide.2 (hc _)).mono ?_; rintro e w1 ⟨rfl, hB1⟩; have hb1 := (rtW_box w r a c).kept (W' := w1) (fun k hk => hB1.block k (by have := rtW_size w r a c; unfold rtW at this; omega)); obtain ⟨k0, k1, k2, r4, f4, r5, f5⟩ := hb1)
    have hF : Below w.heap.size w w1 := (rtW_below w r a c).trans (hB1.mono (rtW_below w r a c).size)
    obtain ⟨c4, c5⟩ := setR_cells ⟨k0, k1, k2, r4, f4, r5, f5⟩ (.slice none 0 0) false
    refine ⟨.tuple #[.slice none 0 0, .bool false], ?_, _, rfl, OwnI_nil _ _, setR_below _ _ hF⟩
    unfold setR at c4 c5
    simp [results, Tryz.f12, go_sem, c4, c5]
  · obtain ⟨R, A, C, rfl, rfl, rfl⟩ := lay_nat hl
    obtain ⟨l1, l2, l3, l4, l5, l6, l7, l8⟩ := lay_mul hl
    have hA6 : A ≤ 6 := by omega
    have hLV := fun W => c_impl_LayoutValid (R : Int) (A : Int) (C : Int) W
    rw [hl] at hLV
    obtain ⟨T, hTe⟩ : ∃ T : ByteArray, (⟨(Lib.trimSuffix s.data.toList [10]).toArray⟩ : ByteArray) = T := ⟨_, rfl⟩
    have hT : IsS T (Lib.trimSuffix l [10]) := by
      rw [← hTe, ← show s.data.toList = l from hs]
      show (Lib.trimSuffix s.data.toList [10]).toArray.toList = _
      simp
    have hTs : T.size ≤ 1048576 := by
      have h1 := hT.size
      have h2 : (Lib.trimSuffix l [10]).length ≤ l.length := by unfold Lib.trimSuffix; split <;> simp
      have h3 := hs.size
      omega
    have hTr := fun W => Tryz.strings_TrimSuffix s ⟨#[10]⟩ W (by omega)
    rw [show ((⟨#[10]⟩ : ByteArray).data.toList) = [10] from rfl, hTe] at hTr
    have HT := Lib.hid hT
    have HL := Lib.hid hl
    have HZp := Lib.hid (pieces_eq T l hT)
    clear hTe hT hl l7 l8
    gi_wp2_with (first
      | (refine ⟨trivial, ?_⟩; gi_at_call 45; refine (callsIn_wide.2 (hLV _)).mono ?_; rintro e w1 ⟨rfl, hB1⟩; have hb1 := (rtW_box w (R : Int) (A : Int) (C : Int)).kept (W' := w1) (fun k hk => hB1.block k (by have := rtW_size w (R : Int) (A : Int) (C : Int); unfold rtW at this; omega)))
      | (refine ⟨trivial, ?_⟩; gi_at_call 47; refine (callsIn_wide.2 (hTr _)).mono ?_; rintro e w' ⟨rfl, rfl⟩)
      | (refine ⟨trivial, ?_⟩; gi_at_call 46; refine (callsIn_wide.2 (c_SplitSeq T _ _)).mono ?_; rintro e w' ⟨rfl, rfl⟩))
    have z1 : w.heap.size + 3 ≤ w1.heap.size := by have h := hB1.size; have h2 := rtW_size w (R : Int) (A : Int) (C : Int); unfold rtW at h2; omega
    have hF1 : Below w.heap.size w w1 := (rtW_below w (R : Int) (A : Int) (C : Int)).trans (hB1.mono (rtW_below w (R : Int) (A : Int) (C : Int)).size)
    have hcc := seqW_cells (w1.alloc (.cells #[.slice none 0 0] 24)) T ⟨#[10, 10]⟩
    have hcb := seqW_below (w1.alloc (.cells #[.slice none 0 0] 24)) T ⟨#[10, 10]⟩
    have hs0 := seqW_size (w1.alloc (.cells #[.slice none 0 0] 24)) T ⟨#[10, 10]⟩
    obtain ⟨W0, hW0⟩ : ∃ W0, seqW (w1.alloc (.cells #[.slice none 0 0] 24)) T ⟨#[10, 10]⟩ = W0 := ⟨_, rfl⟩
    rw [hW0] at hcc hcb hs0 ⊢
    rw [World.size_alloc] at hcc hs0
    have hb0 : Below w1.heap.size w1 W0 := ((Below.refl _ _).alloc (Nat.le_refl _) _).trans (hcb.mono (by simp))
    have hF0 : Below w.heap.size w W0 := hF1.trans (hb0.mono hF1.size)
    have hbx0 := hb1.kept (W' := W0) (fun k hk => hb0.block k (by omega))
    have hVb : W0.heap[w1.heap.size]? = (w1.alloc (.cells #[.slice none 0 0] 24)).heap[w1.heap.size]? := hcb.block _ (by simp)
    have hV0 : W0.cell? ⟨w1.heap.size, 0, none⟩ = some (.slice none 0 0) := (World.cell?_of_block hVb).trans (by simp [go_sem])
    have hVf : W0.frozen? ⟨w1.heap.size, 0, none⟩ = false := (World.frozen?_of_block hVb).trans (by simp [go_sem])
    have hBm : 2 < w.heap.size := by obtain ⟨m, hm⟩ := hmax; exact World.block_lt_of_cell? w _ hm
    have hmW0 : MaxW W0 := hmax.below hF0
    clear hW0 hcb hVb hB1 hb1 hLV hTr
    have HW0 : Hid (W0.heap.size = w1.heap.size + 1 + 3) := hs0
    refine wpIn_rangeFunc_cell rfl (by omega) (gf := 108) (lb := #[.pointer (some ⟨w1.heap.size + 1 + 1, 0, none⟩), .pointer (some ⟨w1.heap.size + 1, 0, none⟩), .pointer (some ⟨w1.heap.size + 1 + 2, 0, none⟩)]) rfl trivial (enters_of Tryz.func108 (by kernel_rfl) rfl) (c0 := w1.heap.size + 1) (by omega)
      (splitSeq_stops (4 - 1) (by omega) T ⟨#[10, 10]⟩ (by decide) (by decide) hTs w.heap.size (w1.heap.size + 1) hBm (by omega) W0 (by omega) hmW0 hcc.1 hcc.2.1 hcc.2.2.1 hcc.2.2.2) (fun h k => h.trans k) (KeepsC.putObj (by omega) (by omega)) (fun _ => rfl)
      (fun pre W => ∃ vs, imP C R A (dataP pre) [] = some vs ∧ vs.length ≤ 6 * sumP (dataP pre) ∧ RtI w w1.heap.size W0.heap.size R A C vs W)
      (fun c pre W => c = .ret ∧ imP C R A (dataP pre) [] = none ∧ RtX w W)
      (fun s A' B' row hs' hg hr => by obtain ⟨vs, q1, q2, q3⟩ := hs'; exact ⟨vs, q1, q2, q3.grown (by omega) (by omega) hg hr⟩)
      (fun c s A' B' row hs' hg hr => ⟨hs'.1, hs'.2.1, hs'.2.2.grown (base := W0.heap.size) (by omega) hg (fun k hk => (hr k hk).1)⟩)
      (fun s W v hs' => by obtain ⟨vs, q1, q2, q3⟩ := hs'; exact ⟨vs, q1, q2, q3.setc (by omega) (by omega) (by omega) v⟩)
      ⟨[], rfl, Nat.zero_le _, ⟨hbx0, hF0, Nat.le_refl _, ⟨none, 0, hV0, OwnI_nil _ _⟩, hVf⟩⟩
      (fun x => { tmps := #[(.agg #[.int .i64 (R : Int), .int .i64 (A : Int), .int .i64 (C : Int)]), .string s, .pointer (some ⟨w.heap.size, 0, none⟩), undef, .pointer (some ⟨w.heap.size + 1, 0, none⟩), .pointer (some ⟨w.heap.size + 1 + 1, 0, none⟩), .pointer (some ⟨w1.heap.size, 0, none⟩), .string x.1, undef, undef, undef, undef, (.agg #[.int .i64 (R : Int), .int .i64 (A : Int), .int .i64 (C : Int)]), .bool true, .bool false, .string s, .string T, seqV (w1.heap.size + 1), .string x.1, undef, undef, undef, undef, undef, undef, undef, undef, undef, undef, undef, undef, undef, undef, undef, undef, undef, undef, undef, undef, undef, undef, undef, undef, undef, undef], defers := [] }) ?assign ?body ?done ?stop
    case assign =>
      intro l x W K hK
      gi_wp2
      exact hK
    case body =>
      rintro l' pre x W ⟨vs, hv, hvl, hI⟩ hlen
      have hd : 1 ≤ 4 - 1 - 1 := by omega
      have hmx : Tryz.prog.follows .mixedOrders = true := by kernel_rfl
      have hB0 : Below w.heap.size w W := hI.below
      obtain ⟨L, hL⟩ : ∃ L, cutS 10 x.1.data.toList = L := ⟨_, rfl⟩
      have hLm : ∀ y ∈ L, y.size ≤ 1048576 := by
        intro y hy
        rw [← hL] at hy
        have h2 := cutS_mem 10 x.1.data.toList y hy
        rw [size_data] at h2
        exact Nat.le_trans h2 x.2
      obtain ⟨⟨k0, k1, k2, r4, f4, r5, f5⟩, _, hsW, ⟨p, cap, hv1, hv2⟩, fV⟩ := id hI
      have hVl := World.block_lt_of_cell? W _ hv1
      have hzl := World.block_lt_of_cell? W _ k0
      have h4l := World.block_lt_of_cell? W _ r4
      have h5l := World.block_lt_of_cell? W _ r5
      have HSp : Hid (∀ W', Below W.heap.size W W' → Calls Tryz.prog 49 #[.string x.1, .string ⟨#[10]⟩] W' (fun e w' => ∃ b cp, e = .returned (.slice b L.length cp) ∧ RdS w' (.slice b L.length cp) L ∧ w'.cell? ⟨w.heap.size, 0, none⟩ = some (.int .i64 ((R : Int))) ∧ w'.cell? ⟨w.heap.size, 1, none⟩ = some (.int .i64 ((A : Int))) ∧ w'.cell? ⟨w.heap.size, 2, none⟩ = some (.int .i64 ((C : Int))) ∧ Below W.heap.size W w')) := by
        intro W' hW'
        refine (c_Split10 x.1 W' ((hmax.below hB0).below hW') x.2).mono ?_
        rintro e w' ⟨u, rfl, ho, hb⟩
        rw [hL] at ho
        have hr := owns_RdS ho
        have hBw := bthen hW' hb
        have kc := (bcell hBw).1
        obtain ⟨b, cp, rfl, hr1⟩ := id hr
        simp only [List.length_map] at hr ⊢
        exact ⟨b, cp, rfl, hr, by rw [kc _ _ hzl]; exact k0, by rw [kc _ _ hzl]; exact k1, by rw [kc _ _ hzl]; exact k2, hBw⟩
      cases hbx : rdB L C R A
      · have hnone : imP C R A (dataP (pre ++ [x])) [] = none := by
          rw [dataP_snoc, imP_snoc, hv]
          show (if rdB (cutS 10 x.1.data.toList) C R A = true then _ else none) = none
          rw [hL, hbx]; rfl
        have HRl : Hid (∀ w' b cp, RdS w' (.slice b L.length cp) L → Below W.heap.size W w' → ∀ W'', Below w'.heap.size w' W'' → Calls Tryz.prog 48 #[(.agg #[.int .i64 (R : Int), .int .i64 (A : Int), .int .i64 (C : Int)]), .slice b L.length cp] W'' (fun e w'' => ∃ b2 n2 cp2, e = .returned (.tuple #[.slice b2 n2 cp2, .bool false]) ∧ w''.cell? ⟨w.heap.size + 1, 0, none⟩ = some (.slice none 0 0) ∧ w''.frozen? ⟨w.heap.size + 1, 0, none⟩ = false ∧ w''.cell? ⟨w.heap.size + 1 + 1, 0, none⟩ = some (.bool false) ∧ w''.frozen? ⟨w.heap.size + 1 + 1, 0, none⟩ = false ∧ RtB w w'' R A C ∧ Below W.heap.size W w'')) := by
          intro w' b cp hr hB W'' hB''
          have hBW := bthen hB hB''
          have hBA := bthen hB0 hBW
          have hc := c_readLinesB R A C _ L W'' (htab.below hBA) (herr.below hBA) (hr.kept hB'') hLm HL.out
          refine hc.mono ?_
          rintro e w3 ⟨u, rfl, ho, hb⟩
          have hBw := bthen hBW hb
          obtain ⟨b2, cp2, rfl, _⟩ := owns_RdI ho
          have hbx' := hI.bx.kept (W' := w3) (fun k hk => hBw.block k (by have := hI.size; omega))
          rw [hbx]
          exact ⟨b2, _, cp2, rfl, hbx'.r4, hbx'.f4, hbx'.r5, hbx'.f5, hbx', hBw⟩
        clear hv2
        gi_wp2
        gi_region_with_o (first
          | (refine ⟨trivial, ?_⟩; gi_at_call 49; refine (CallsIn.inRound l' (callsIn_wide.2 (HSp.out _ (by repeat (first | exact Below.refl _ _ | refine Below.drew ?_ | refine below_drewN ?_ _))))).mono ?_; rintro e w' ⟨b, cp, rfl, hr', k0', k1', k2', hB'⟩)
          | (refine ⟨trivial, ?_⟩; gi_at_call 48; refine (CallsIn.inRound l' (callsIn_wide.2 (HRl.out _ _ _ hr' hB' _ (by repeat (first | exact Below.refl _ _ | refine Below.drew ?_ | refine below_drewN ?_ _))))).mono ?_; rintro e w'' ⟨b2, n2, cp2, rfl, r4', f4', r5', f5', hbx', hB''⟩))
        all_goals gi_wp2
        all_goals (try go_bits)
        all_goals exact ⟨((keepsO hB'').trans (KeepsOthers.setCell _ _ _)).trans (KeepsOthers.setCell _ _ _), rfl, hnone, (setR_cells hbx' _ _).1, (setR_cells hbx' _ _).2, setR_below _ _ (bthen hB0 hB'')⟩
      · obtain ⟨X, hX⟩ : ∃ X, celV L C A = X := ⟨_, rfl⟩
        have hXl : X.length ≤ 6 * (x.1.data.toList.length + 1) := by rw [← hX, ← hL]; exact celV_cut _ _ _ hA6
        have hsome : imP C R A (dataP (pre ++ [x])) [] = some (vs ++ X) := by
          rw [dataP_snoc, imP_snoc, hv]
          show (if rdB (cutS 10 x.1.data.toList) C R A = true then some (vs ++ celV (cutS 10 x.1.data.toList) C A) else none) = _
          rw [hL, hbx, hX]; rfl
        have hvl2 : (vs ++ X).length ≤ 6 * sumP (dataP (pre ++ [x])) := by rw [dataP_snoc, sumP_snoc, List.length_append]; omega
        have hvl3 : vs.length ≤ 6 * (1048577 * 1048577) := by
          have q1 := sumP_data pre
          have q2 : pre.length ≤ 1048577 := by
            have q3 := sumP_split ⟨#[10, 10]⟩ (by decide) (Lib.countB T ⟨#[10, 10]⟩) T
            have q4 := sumP_len ((Lib.splitB ⟨#[10, 10]⟩ 0 (Lib.countB T ⟨#[10, 10]⟩) T).map (·.data.toList))
            rw [List.length_map, Lib.splitB_all _ (by decide) 0 _ T rfl] at q4
            omega
          have q5 := Nat.mul_le_mul_right 1048577 q2
          omega
        have hXl3 : X.length ≤ 6 * 1048577 := by
          have := x.2
          rw [size_data] at hXl
          omega
        have HRl : Hid (∀ w' b cp, RdS w' (.slice b L.length cp) L → Below W.heap.size W w' → ∀ W'', Below w'.heap.size w' W'' → Calls Tryz.prog 48 #[(.agg #[.int .i64 (R : Int), .int .i64 (A : Int), .int .i64 (C : Int)]), .slice b L.length cp] W'' (fun e w'' => ∃ b2 cp2, e = .returned (.tuple #[.slice b2 X.length cp2, .bool true]) ∧ OwnI w'' W.heap.size (.slice b2 X.length cp2) X ∧ w''.cell? ⟨w1.heap.size, 0, none⟩ = some (.slice p vs.length cap) ∧ w''.frozen? ⟨w1.heap.size, 0, none⟩ = false ∧ w''.ownsRow W0.heap.size 3 1 (.slice p vs.length cap) vs.length (vs.map (Value.int .i64)) ∧ W0.heap.size ≤ w''.heap.size ∧ Below W.heap.size W w'')) := by
          intro w' b cp hr hB W'' hB''
          have hBW := bthen hB hB''
          have hBA := bthen hB0 hBW
          have hc := c_readLinesB R A C _ L W'' (htab.below hBA) (herr.below hBA) (hr.kept hB'') hLm HL.out
          refine hc.mono ?_
          rintro e w3 ⟨u, rfl, ho, hb⟩
          have hBw := bthen hBW hb
          rw [rdV_rl hbx, hX] at ho
          obtain ⟨b2, cp2, rfl, _⟩ := owns_RdI ho
          have hvb := hBw.block w1.heap.size hVl
          rw [hbx]
          simp only [List.length_map] at ho ⊢
          exact ⟨b2, cp2, rfl, ownsRow_mono ho hBW.size, (World.cell?_of_block hvb).trans hv1, (World.frozen?_of_block hvb).trans fV, ownsRow_kept_below hv2 hBw, Nat.le_trans hI.size hBw.size, hBw⟩
        clear hL hX hXl
        gi_wp2
        gi_region_with_o (first
          | (refine ⟨trivial, ?_⟩; gi_at_call 49; refine (CallsIn.inRound l' (callsIn_wide.2 (HSp.out _ (by repeat (first | exact Below.refl _ _ | refine Below.drew ?_ | refine below_drewN ?_ _))))).mono ?_; rintro e w' ⟨b, cp, rfl, hr', k0', k1', k2', hB'⟩)
          | (refine ⟨trivial, ?_⟩; gi_at_call 48; refine (CallsIn.inRound l' (callsIn_wide.2 (HRl.out _ _ _ hr' hB' _ (by repeat (first | exact Below.refl _ _ | refine Below.drew ?_ | refine below_drewN ?_ _))))).mono ?_; rintro e w'' ⟨b2, cp2, rfl, ho'', v1'', fV'', hv2'', hbs'', hB''⟩))
        all_goals gi_wp2_with (gi_at_builtin; refine sprIn 24 3 Tryz.underlying24 infoInt rfl rfl _ _ rfl W0.heap.size _ _ _ rfl hv2'' W.heap.size _ _ _ rfl ho'' (by intro y hy; obtain ⟨i, _, rfl⟩ := List.mem_map.1 hy; rfl) (by omega) (by omega) hbs'' ?_; intro v' w3 ho3 hg3 _; have ho4 := OwnI_app ho3; obtain ⟨b3, cap3, rfl, _⟩ := owns_RdI ho4; simp only [List.length_map] at ho4 ⊢; have hg4 : World.grownBy _ w3 (Value.slice p vs.length cap).ownBlock := hg3; have hv3 := (World.cell?_of_block (hg3.block w1.heap.size (World.block_lt_of_cell? _ _ v1'') (fun q => by have := (hv2''.lt _ q.symm).1; omega))).trans v1''; have fV3 := (World.frozen?_of_block (hg3.block w1.heap.size (World.block_lt_of_cell? _ _ v1'') (fun q => by have := (hv2''.lt _ q.symm).1; omega))).trans fV'')
        all_goals exact ⟨((keepsO hB'').trans (KeepsOthers.of_grownBy hg4 (own_cells hv2''))).trans (KeepsOthers.setCell _ _ _), keepsC_app hB'' (by omega) (by omega) (by omega) hI.size hv2'' hg4, vs ++ X, hsome, hvl2, by have q := (hI.kept (by omega) (by omega) hB'').app (by omega) (by omega) hv2'' hg4 ho4; rw [List.length_append] at q; exact q⟩
    case done =>
      rintro D xs W hD hS ⟨vs, hv, hvl, hI⟩ hK
      have hdat : dataP xs = imG l := by
        rw [← HZp.out, ← hS, List.map_map]; rfl
      rw [hdat] at hv hvl
      have hvl2 : vs.length ≤ 6 * 1048577 := by
        have q3 := sumP_split ⟨#[10, 10]⟩ (by decide) (Lib.countB T ⟨#[10, 10]⟩) T
        rw [HZp.out] at q3
        omega
      have hrs := rt_some (r := (R : Int)) (a := (A : Int)) (c := (C : Int)) (t := l) (v := vs) (by simpa using hv)
      obtain ⟨Bp, hBp⟩ : ∃ Bp, ptB (R : Int) (A : Int) (C : Int) vs = Bp := ⟨_, rfl⟩
      obtain ⟨Fp, hFp⟩ : ∃ Fp, ptF (R : Int) (A : Int) (C : Int) vs = Fp := ⟨_, rfl⟩
      obtain ⟨B, hb⟩ : ∃ B, rdtB (R : Int) (A : Int) (C : Int) l = B := ⟨_, rfl⟩
      obtain ⟨F, hf⟩ : ∃ F, rdtV (R : Int) (A : Int) (C : Int) l = F := ⟨_, rfl⟩
      have HE : Hid (B = (Bp && decide (Fp = l)) ∧ (B = true → F = vs) ∧ (B = false → F = [])) := by
        obtain ⟨e1, e2⟩ := hrs
        rw [hb] at e1 e2
        refine ⟨by rw [e1, hBp, hFp], fun h => ?_, fun h => ?_⟩
        · rw [← hf, ← e2 h]; unfold rdtV; rw [hb, h]; rfl
        · rw [← hf]; unfold rdtV; rw [hb, h]; rfl
      have hBA : Below w.heap.size w W := hI.below
      obtain ⟨⟨k0, k1, k2, r4, f4, r5, f5⟩, _, hsW, ⟨p, cap, hv1, hv2⟩, fV⟩ := id hI
      have hcap := own_capR hv2
      have hPT : Hid (Calls Tryz.prog 18 #[(.agg #[.int .i64 (R : Int), .int .i64 (A : Int), .int .i64 (C : Int)]), .slice p vs.length cap] W (fun e w' => ∃ Y, e = .returned (.tuple #[.string Y, .bool Bp]) ∧ IsS Y Fp ∧ RtB w w' R A C ∧ w'.cell? ⟨w1.heap.size, 0, none⟩ = some (.slice p vs.length cap) ∧ OwnI w' W0.heap.size (.slice p vs.length cap) vs ∧ w'.heap[D]? = some (.deferred (some [])) ∧ Below w.heap.size w w')) := by
        have hc := c_impl_PrintTable (R : Int) (A : Int) (C : Int) p cap vs W (htab.below hBA) (owns_RdI hv2) (by omega) hcap.1 hcap.2
        rw [hBp, hFp] at hc
        refine hc.mono ?_
        rintro e w' ⟨Y, rfl, hY, hB⟩
        have hDl : D < W.heap.size := (Array.getElem?_eq_some_iff.1 hK).1
        have hi := hI.kept (by omega) (by omega) hB
        exact ⟨Y, rfl, hY, hi.bx, (World.cell?_of_block (hB.block w1.heap.size (by omega))).trans hv1, ownsRow_kept_below hv2 hB, (hB.block D hDl).trans hK, hi.below⟩
      have HBF : Hid (rdtB (R : Int) (A : Int) (C : Int) l = B ∧ rdtV (R : Int) (A : Int) (C : Int) l = F) := ⟨hb, hf⟩
      clear hrs hBp hFp hb hf hv hvl hv2
      have hn42 : 1 ≤ 4 := by omega
      gi_wp2_with (fail)
      refine ⟨trivial, ?_⟩
      refine (callsIn_wide.2 hPT.out).mono ?_
      rintro e w5 ⟨Y, rfl, hY, hbx5, hv5, ho5, hK5, hB5⟩
      obtain ⟨k0', k1', k2', r4', f4', r5', f5'⟩ := id hbx5
      cases Bp
      · have HB : Hid (B = false ∧ F = []) := by
          have h1 : B = false := by rw [HE.out.1]; rfl
          exact ⟨h1, HE.out.2.2 h1⟩
        obtain ⟨hK', c4, c5, hF⟩ := setR_leave hbx5 hK5 (by omega) hB5 (.slice none 0 0) false
        gi_wp2
        unfold setR at hK' c4 c5 hF
        refine ⟨by simp, .inl ⟨_, _, rfl, run_takeDeferred hK', ?_⟩⟩
        exact ⟨.tuple #[.slice none 0 0, .bool false], by simp [results, Tryz.f12, go_sem, c4, c5], _, by rw [HBF.out.1, HB.out.1], by rw [HBF.out.2, HB.out.2]; exact OwnI_nil _ _, hF⟩
      · by_cases hYs : Y = s
        · have HB : Hid (B = true ∧ F = vs) := by
            have h1 : B = true := by
              rw [HE.out.1]
              rw [hYs] at hY
              have h2 : Fp = l := hY.symm.trans hs
              rw [decide_eq_true h2]; rfl
            exact ⟨h1, HE.out.2.1 h1⟩
          obtain ⟨hK', c4, c5, hF⟩ := setR_leave hbx5 hK5 (by omega) hB5 (.slice p vs.length cap) true
          have ho6 := setR_own (v := .slice p vs.length cap) (b := true) ho5 (by omega) hK'
          subst hYs
          gi_wp2
          unfold setR at hK' c4 c5 hF ho6
          refine ⟨by simp, .inl ⟨_, _, rfl, run_takeDeferred hK', ?_⟩⟩
          exact ⟨.tuple #[.slice p vs.length cap, .bool true], by simp [results, Tryz.f12, go_sem, c4, c5], _, by rw [HBF.out.1, HB.out.1], by rw [HBF.out.2, HB.out.2]; exact ho6, hF⟩
        · have HB : Hid (B = false ∧ F = []) := by
            have h1 : B = false := by
              rw [HE.out.1, decide_eq_false (fun h2 => hYs (IsS.inj hY (show IsS s Fp by rw [h2]; exact hs)))]; rfl
            exact ⟨h1, HE.out.2.2 h1⟩
          have e3 := str_bne hYs
          obtain ⟨hK', c4, c5, hF⟩ := setR_leave hbx5 hK5 (by omega) hB5 (.slice none 0 0) false
          gi_wp2
          unfold setR at hK' c4 c5 hF
          refine ⟨by simp, .inl ⟨_, _, rfl, run_takeDeferred hK', ?_⟩⟩
          exact ⟨.tuple #[.slice none 0 0, .bool false], by simp [results, Tryz.f12, go_sem, c4, c5], _, by rw [HBF.out.1, HB.out.1], by rw [HBF.out.2, HB.out.2]; exact OwnI_nil _ _, hF⟩
    case stop =>
      rintro D c pre W hD hpre ⟨rfl, hnone, hX⟩ hK
      obtain ⟨rest, hrest⟩ := hpre
      have hall : imP C R A (imG l) [] = none := by
        have h1 : imG l = dataP pre ++ rest.map (·.data.toList) := by
          rw [← HZp.out, ← hrest, List.map_append, List.map_map]; rfl
        rw [h1]
        exact imP_none _ _ _ _ _ _ hnone
      have h0 := rt_none (r := (R : Int)) (a := (A : Int)) (c := (C : Int)) (t := l) (by simpa using hall)
      rw [hNo h0, h0]
      obtain ⟨c4, c5, hB⟩ := hX
      have c4' := (World.cell?_of_block (w := W) (w' := W.putObj D (.deferred none)) (a := ⟨w.heap.size + 1, 0, none⟩) (World.putObj_heap_other (by show w.heap.size + 1 ≠ D; omega))).trans c4
      have c5' := (World.cell?_of_block (w := W) (w' := W.putObj D (.deferred none)) (a := ⟨w.heap.size + 1 + 1, 0, none⟩) (World.putObj_heap_other (by show w.heap.size + 1 + 1 ≠ D; omega))).trans c5
      have hF : Below w.heap.size w (W.putObj D (.deferred none)) := hB.grown (grownBy_putObj' _ D (.deferred none)) hB.size (fun k e => by cases e; omega)
      gi_wp2
      refine ⟨by simp, .inl ⟨_, _, rfl, run_takeDeferred hK, ?_⟩⟩
      exact ⟨.tuple #[.slice none 0 0, .bool false], by simp [results, Tryz.f12, go_sem, c4', c5'], _, rfl, OwnI_nil _ _, hF⟩
end Go.Proofs.YtgjaajfpdajleaaGreatDoor
