/- Lemmas and contracts for WholePlan (Sq1 Sq2 Sq3): plain words on memory, contracts of the functions that the law reaches. No condition but what each states. -/
import Derived.Test.YtdfnclnjnmdboaaGreatDoorShelf
import Derived.RangeFuncFrom
import Derived.RangeFuncLeaves
import Derived.Shelf.Abstract
import Derived.WalkKit
import Derived.OwnWalkIn
import Derived.TacticsInMore
import Derived.LoopNIn
import Derived.LoopIn
import Derived.Test.YtdfnclnjnmdboaaGreatDoorMWholePlanMaxW
import Derived.Test.YtdfnclnjnmdboaaGreatDoorMWholePlanNumPl
import Derived.Test.YtdfnclnjnmdboaaGreatDoorMWholePlanCols
import Derived.Lib.SplitLaws
import Derived.Lib.CutLaws
namespace Go.Proofs.YtdfnclnjnmdboaaGreatDoor
set_option linter.unusedVariables false
open Go.RowKit

/-- the iterator's contract: as the kit's, but the caller's words abide a store into the cell at c0 too -/
def SeqCell {α : Type} (F : Fence) (n : Nat) (P : Program) (g : Nat) (lb : Array Value) (encs : α → Array Value) (Kp : World → World → Prop) (S Sp : List α → Prop) (N c0 : Nat) (w : World) : Prop :=
  ∀ (l : Nat) (J Jx : List α → World → Prop) (W : World), Below w.heap.size w W → AbidesFrom W.heap.size J → AbidesFrom W.heap.size Jx →
    (∀ s W1 v, J s W1 → J s (W1.setCell ⟨c0, 0, none⟩ v)) →
    (∀ pre x W1, J pre W1 → pre.length < N → YieldAt F (n - 1) P l (encs x) W1 fun e W' =>
      (e = .returned (.bool true) ∧ J (pre ++ [x]) W' ∧ Kp W1 W') ∨ (e = .returned (.bool false) ∧ Jx (pre ++ [x]) W')) →
    J [] W →
    CallsIn F n P g (#[.func (.yield l) #[] #[]] ++ lb) W fun e W' => (∃ v, e = .returned v) ∧ ((∃ xs, S xs ∧ J xs W') ∨ (∃ pre, Sp pre ∧ Jx pre W'))

theorem heap_set_other (W : World) (c k : Nat) (v : Value) (h : k ≠ c) : (W.setCell ⟨c, 0, none⟩ v).heap[k]? = W.heap[k]? := Below.heap_setCell _ _ _ _ (fun e => h e)

theorem wpIn_rangeFunc_cell {F : Fence} {n : Nat} {P : Program} {α : Type} {g : Operand} {ps : Array Tmp} {assign body : Code} {Q : Exit → Act → World → Prop} {a : Act} {w : World}
    (hro : F.round = none) (h1 : 1 ≤ n) {gf : Nat} {lb : Array Value} (hg : a.eval g = .func (.func gf) #[] lb) (hFg : F.fn gf) (eg : ∀ args w, (callFunc gf args).run P w = .ok (.enter gf args) w)
    {encs : α → Array Value} {Kp : World → World → Prop} {S Sp : List α → Prop} {N c0 : Nat} (hc0 : c0 < w.heap.size) (hseq : SeqCell F (n - 1) P gf lb encs Kp S Sp N c0 w)
    (hKt : ∀ {A B C : World}, Kp A B → Kp B C → Kp A C) (hKb : ∀ (W : World) (l : Nat) (o o' : Obj), w.heap.size ≤ l → W.heap[l]? = some o → o.isCells = false → o.isWalk = false → Kp W (W.putObj l o')) (hps : ∀ x, (encs x).size = ps.size)
    (I : List α → World → Prop) (Ix : Code → List α → World → Prop) (hI : OwnFrom w.heap.size I) (hIx : ∀ c, OwnFrom w.heap.size (Ix c)) (hIc : ∀ s W v, I s W → I s (W.setCell ⟨c0, 0, none⟩ v)) (h0 : I [] w) (a₁ : α → Act)
    (hassign : ∀ (l : Nat) (x : α) (W : World) (K : Act → World → Prop), K (a₁ x) W →
      assign.wpIn (F.inRound l) (n - 1 - 1) P (Exit.then K (fun _ _ _ => False)) { tmps := (ps.zip (encs x)).foldl (fun t (p, v) => t.setIfInBounds p v) a.tmps, defers := [] } W)
    (hbody : ∀ (l : Nat) (pre : List α) (x : α) (W : World), I pre W → pre.length < N → body.wpIn (F.inRound l) (n - 1 - 1) P (ownPostK Kp I Ix (pre ++ [x]) W) (a₁ x) W)
    (hdone : ∀ (D : Nat) (xs : List α) (W : World), w.heap.size ≤ D → S xs → I xs W → W.heap[D]? = some (.deferred (some [])) → Q .normal { a with defers := { target := .collected D, args := #[] } :: a.defers } W)
    (hstop : ∀ (D : Nat) (c : Code) (pre : List α) (W : World), w.heap.size ≤ D → Sp pre → Ix c pre W → W.heap[D]? = some (.deferred (some [])) → c.wpIn F n P Q { a with defers := { target := .collected D, args := #[] } :: a.defers } W) :
    (Code.rangeFunc g ps assign body).wpIn F n P Q a w := by
  refine wpIn_rangeFunc ?_
  intro fn hfn
  rw [hro]
  obtain ⟨rec, hrec⟩ : ∃ rec : LoopState → Option Code → Loop, rec = fun st pe => { state := st, pending := pe, fn, tmps := a.tmps, params := ps, assign, body, defers := w.heap.size } := ⟨_, rfl⟩
  obtain ⟨W1, hW1⟩ : ∃ W1, (w.alloc (.deferred (some []))).alloc (.loop (rec .ready none)) = W1 := ⟨_, rfl⟩
  have hL1 : W1.heap[w.heap.size + 1]? = some (.loop (rec .ready none)) := by
    rw [← hW1]; have := World.alloc_heap_new (w.alloc (.deferred (some []))) (.loop (rec .ready none)); rwa [World.size_alloc] at this
  have hK1 : W1.heap[w.heap.size]? = some (.deferred (some [])) := by
    rw [← hW1]; exact (Below.heap_alloc _ _ _ (by simp)).trans (World.alloc_heap_new w _)
  have hI1 : I [] W1 := by rw [← hW1]; exact hI.alloc _ (hI.alloc _ h0)
  have hb1 : Below w.heap.size w W1 := by
    rw [← hW1]; exact ((Below.refl _ w).alloc (Nat.le_refl _) _).alloc (by simp) _
  refine ⟨w.heap.size + 1, [{ target := .collected w.heap.size, args := #[] }], W1, { target := .fn (.func gf) lb, args := #[.func (.yield (w.heap.size + 1)) #[] #[]] }, W1, gf,
    #[.func (.yield (w.heap.size + 1)) #[] #[]] ++ lb, W1, ?_, ?_, ?_, ?_, fun _ => h1, ?_⟩
  · rw [← hW1, hrec]; exact run_enterLoop_outer _ _ _ _ _
  · simp only [resolve, hg]
    simp [go_sem]
  · intro f' hf'; simp [Target.leads] at hf'; subst hf'; exact hFg
  · simp [invoke, go_sem, eg]
  · have hnw : ∀ {A B : World} {row : Option Nat}, (∀ r, row = some r → W1.heap.size ≤ r ∧ ∃ o : Obj, A.heap[r]? = some o ∧ o.isWalk = true) → (∀ r, row = some r → w.heap.size ≤ r ∧ ∃ o : Obj, A.heap[r]? = some o ∧ o.isCells = false) :=
      fun hr r e => by obtain ⟨hB, o, ho, hw⟩ := hr r e; exact ⟨by rw [← hW1] at hB; simp at hB; omega, o, ho, Obj.not_cells_of_walk hw⟩
    refine (hseq (w.heap.size + 1)
      (fun pre W => I pre W ∧ W.heap[w.heap.size + 1]? = some (.loop (rec .ready none)) ∧ W.heap[w.heap.size]? = some (.deferred (some [])))
      (fun pre W => ∃ c, Ix c pre W ∧ W.heap[w.heap.size + 1]? = some (.loop (rec .done (some c))) ∧ W.heap[w.heap.size]? = some (.deferred (some [])))
      W1 hb1
      (fun s A B row hs hg' hr => ⟨hI s A B row hs.1 hg' (hnw (B := B) hr), (grownBy_keeps hg' (fun r e => (hr r e).2) hs.2.1 rfl).trans hs.2.1, (grownBy_keeps hg' (fun r e => (hr r e).2) hs.2.2 rfl).trans hs.2.2⟩)
      (fun s A B row hs hg' hr => by
        obtain ⟨c, hc, hl, hk⟩ := hs
        exact ⟨c, hIx c s A B row hc hg' (hnw (B := B) hr), (grownBy_keeps hg' (fun r e => (hr r e).2) hl rfl).trans hl, (grownBy_keeps hg' (fun r e => (hr r e).2) hk rfl).trans hk⟩)
      (fun s A v hs => ⟨hIc s A v hs.1, (heap_set_other A c0 _ v (by omega)).trans hs.2.1, (heap_set_other A c0 _ v (by omega)).trans hs.2.2⟩)
      ?_ ⟨hI1, hL1, hK1⟩).mono ?_
    · rintro pre x W ⟨hi, hl, hk⟩ hlen
      have hlt : w.heap.size + 1 < W.heap.size := (Array.getElem?_eq_some_iff.1 hl).1
      have hy := run_yield (P := P) (args := encs x) hl (by rw [hrec]; exact hps x)
      rw [hrec] at hy
      refine ⟨fn, _, assign, body, hy, roundIn_of_wpIn hfn (hassign _ x W _ ⟨_, run_beginRound hl (by rw [hrec]), ?_⟩)⟩
      have hl2 : (W.putObj (w.heap.size + 1) (.loop { rec .ready none with state := .busy })).heap[w.heap.size + 1]? = some (.loop { rec .ready none with state := .busy }) := World.putObj_heap_same hlt
      have hk2 : (W.putObj (w.heap.size + 1) (.loop { rec .ready none with state := .busy })).heap[w.heap.size]? = some (.deferred (some [])) := (World.putObj_heap_other (by omega)).trans hk
      have hw2 : Kp W (W.putObj (w.heap.size + 1) (.loop { rec .ready none with state := .busy })) := hKb _ _ _ _ (by omega) hl rfl rfl
      refine wpIn_mono (hbody _ pre x _ (hI.putObj _ hi (by omega) hl rfl) hlen) ?_
      have fin : ∀ (jump : Option Code) (W3 : World), KeepsOthers (W.putObj (w.heap.size + 1) (.loop { rec .ready none with state := .busy })) W3 →
          (Instr.endRound (w.heap.size + 1) jump).run P W3 = .ok (.bool jump.isNone) (W3.putObj (w.heap.size + 1) (.loop (rec (if jump.isNone then .ready else .done) jump))) ∧
          W3.heap[w.heap.size + 1]? = some (.loop { rec .ready none with state := .busy }) ∧
          (W3.putObj (w.heap.size + 1) (.loop (rec (if jump.isNone then .ready else .done) jump))).heap[w.heap.size + 1]? = some (.loop (rec (if jump.isNone then .ready else .done) jump)) ∧
          (W3.putObj (w.heap.size + 1) (.loop (rec (if jump.isNone then .ready else .done) jump))).heap[w.heap.size]? = some (.deferred (some [])) := fun jump W3 hk3 => by
        have hl3 := hk3.same _ _ hl2 rfl
        have := run_endRound (P := P) jump hl3
        rw [hrec] at this ⊢
        exact ⟨this, by rw [hrec] at hl3; exact hl3, World.putObj_heap_same (Array.getElem?_eq_some_iff.1 hl3).1, (World.putObj_heap_other (by omega)).trans (hk3.same _ _ hk2 rfl)⟩
      rintro e a3 W3 hp
      cases e with
      | normal =>
        obtain ⟨hk3, hkp3, hi3⟩ := hp
        obtain ⟨hr, hl3, hl4, hk4⟩ := fin none W3 hk3
        exact ⟨_, _, hr, .inl ⟨rfl, ⟨hI.putObj _ hi3 (by omega) hl3 rfl, hl4, hk4⟩, hKt (hKt hw2 hkp3) (hKb _ _ _ _ (by omega) hl3 rfl rfl)⟩⟩
      | ret =>
        obtain ⟨hk3, hi3⟩ := hp
        obtain ⟨hr, hl3, hl4, hk4⟩ := fin (some .ret) W3 hk3
        exact ⟨_, _, hr, .inr ⟨rfl, .ret, (hIx _).putObj _ hi3 (by omega) hl3 rfl, hl4, hk4⟩⟩
      | exit id =>
        obtain ⟨hk3, hi3⟩ := hp
        obtain ⟨hr, hl3, hl4, hk4⟩ := fin (some (.exit id)) W3 hk3
        exact ⟨_, _, hr, .inr ⟨rfl, .exit id, (hIx _).putObj _ hi3 (by omega) hl3 rfl, hl4, hk4⟩⟩
      | goto t =>
        obtain ⟨hk3, hi3⟩ := hp
        obtain ⟨hr, hl3, hl4, hk4⟩ := fin (some (.goto t)) W3 hk3
        exact ⟨_, _, hr, .inr ⟨rfl, .goto t, (hIx _).putObj _ hi3 (by omega) hl3 rfl, hl4, hk4⟩⟩
      | panic ch => exact hp.elim
      | outgrown => exact hp.elim
    · rintro e W2 ⟨⟨v, rfl⟩, (⟨xs, hS, hi, hl, hk⟩ | ⟨pre, hSp, c, hi, hl, hk⟩)⟩
      · exact ⟨none, _, by have := run_endLoop (P := P) hl (by rw [hrec]; simp); rw [hrec] at this; exact this, hdone _ xs _ (Nat.le_refl _) hS (hI.putObj _ hi (by omega) hl rfl) ((World.putObj_heap_other (by omega)).trans hk)⟩
      · exact ⟨some c, _, by have := run_endLoop (P := P) hl (by rw [hrec]; simp); rw [hrec] at this; exact this, hstop _ c pre _ (Nat.le_refl _) hSp ((hIx c).putObj _ hi (by omega) hl rfl) ((World.putObj_heap_other (by omega)).trans hk)⟩
end Go.Proofs.YtdfnclnjnmdboaaGreatDoor

namespace Go.Proofs.YtdfnclnjnmdboaaGreatDoor
set_option linter.unusedVariables false
open Go.RowKit Go.Shelf
attribute [local go_sem] Oper.semAt_some

abbrev PieceB := { x : ByteArray // x.size ≤ 1048576 }
/-- what a round keeps: whatever lay below B, and the iterator's three cells from c on -/
def KeepsC (B c : Nat) (W W' : World) : Prop := W.heap.size ≤ W'.heap.size ∧ ∀ k, (k < B ∨ (c ≤ k ∧ k < c + 3)) → W'.heap[k]? = W.heap[k]?
theorem KeepsC.trans {B c : Nat} {x y z : World} (h : KeepsC B c x y) (k : KeepsC B c y z) : KeepsC B c x z := ⟨Nat.le_trans h.1 k.1, fun i hi => (k.2 i hi).trans (h.2 i hi)⟩
theorem KeepsC.putObj {B c : Nat} {w : World} (hB : B ≤ w.heap.size) (hc : c + 3 ≤ w.heap.size) (W : World) (l : Nat) (o o' : Obj) (hl : w.heap.size ≤ l) (h : W.heap[l]? = some o) (_ : o.isCells = false) (_ : o.isWalk = false) : KeepsC B c W (W.putObj l o') :=
  ⟨(grownBy_putObj' W l o').size, fun k hk => World.putObj_heap_other (by omega)⟩
theorem KeepsC.cell {B c : Nat} {W W' : World} (h : KeepsC B c W W') {k o : Nat} (hk : k < B ∨ (c ≤ k ∧ k < c + 3)) : W'.cell? ⟨k, o, none⟩ = W.cell? ⟨k, o, none⟩ ∧ W'.frozen? ⟨k, o, none⟩ = W.frozen? ⟨k, o, none⟩ :=
  ⟨World.cell?_of_block (a := ⟨k, o, none⟩) (h.2 k hk), World.frozen?_of_block (a := ⟨k, o, none⟩) (h.2 k hk)⟩
def leftS (c : Nat) (W : World) : Nat := match W.cell? ⟨c, 0, none⟩ with
  | some (.string s) => s.size
  | _ => 0
theorem leftS_eq {c : Nat} {W : World} {s : ByteArray} (h : W.cell? ⟨c, 0, none⟩ = some (.string s)) : leftS c W = s.size := by unfold leftS; rw [h]
theorem sliceTo (y : ByteArray) (n : Nat) (h : n ≤ y.size) (W : World) : (Instr.slice 9 (.string y) none (some (.int .i64 (n : Int))) none).run Tryz.prog W = .ok (.string (y.extract 0 n)) W := by
  rw [run_slice_string_to_if W 9 y .i64 n Tryz.underlying9, if_pos (by omega), Int.toNat_natCast]
set_option maxRecDepth 100000 in
set_option maxHeartbeats 2000000 in
theorem c_splitSeq1 (n : Nat) (hn : 1 ≤ n) (l B c : Nat) (s sep : ByteArray) (h1 : 1 ≤ sep.size) (h2 : sep.size ≤ 1048576) (hs : s.size ≤ 1048576) (J Jx : List PieceB → World → Prop)
    (hJc : ∀ s W1 v, J s W1 → J s (W1.setCell ⟨c, 0, none⟩ v))
    (hY : ∀ pre x W, J pre W → pre.length < Lib.countB s sep + 1 → YieldAt Fence.wide (n - 1) Tryz.prog l #[.string x.1] W fun e W' =>
      (e = .returned (.bool true) ∧ J (pre ++ [x]) W' ∧ KeepsC B c W W') ∨ (e = .returned (.bool false) ∧ Jx (pre ++ [x]) W'))
    (hBm : 0 < B) (W : World) (hm : MaxW W) (k0 : W.cell? ⟨c, 0, none⟩ = some (.string s)) (f0 : W.frozen? ⟨c, 0, none⟩ = false) (k1 : W.cell? ⟨c + 1, 0, none⟩ = some (.string sep)) (k2 : W.cell? ⟨c + 2, 0, none⟩ = some (.int .i64 0)) (hcB : B ≤ c) (h0 : J [] W) :
    CallsIn Fence.wide n Tryz.prog 101 #[.func (.yield l) #[] #[], .pointer (some ⟨c + 1, 0, none⟩), .pointer (some ⟨c, 0, none⟩), .pointer (some ⟨c + 2, 0, none⟩)] W fun e W' => (∃ v, e = .returned v) ∧
      ((∃ ys, ys.map (·.1) = Lib.splitB sep 0 (Lib.countB s sep) s ∧ J ys W') ∨ (∃ pre, (pre.map (·.1) <+: Lib.splitB sep 0 (Lib.countB s sep) s) ∧ Jx pre W')) := by
  have hlen : (Lib.splitB sep 0 (Lib.countB s sep) s).length = Lib.countB s sep + 1 := Lib.splitB_all sep h1 0 _ s rfl
  obtain ⟨Z, hZ⟩ : ∃ Z, Lib.splitB sep 0 (Lib.countB s sep) s = Z := ⟨_, rfl⟩
  obtain ⟨N, hN⟩ : ∃ N, Lib.countB s sep + 1 = N := ⟨_, rfl⟩
  rw [hZ, hN] at hlen
  rw [hN] at hY
  have HZ : Hid (Lib.splitB sep 0 (Lib.countB s sep) s = Z) := hZ
  have e0 : ((sep.size : Int) == 0) = false := beq_eq_false_iff_ne.2 (by omega)
  rw [hZ]
  clear hZ hN
  refine callsIn_of_wp Tryz.func101 rfl trivial ?_ rfl
  simp only [Tryz.ntmps101, List.size_toArray, List.length_cons, List.length_nil, Nat.reduceAdd, Nat.reduceSub, Array.replicate_succ, Array.replicate_zero, List.push_toArray, List.append_toArray, List.nil_append, List.cons_append]
  gi_wp2
  gi_loopw [7, 8] (fun i f wr => ∃ (pre : List PieceB) (s' : ByteArray), s'.size ≤ 1048576 ∧ Hid (Z = pre.map (·.1) ++ Lib.splitB sep 0 (Lib.countB s' sep) s') ∧ wr.cell? ⟨c, 0, none⟩ = some (.string s') ∧ wr.frozen? ⟨c, 0, none⟩ = false ∧ wr.cell? ⟨c + 1, 0, none⟩ = some (.string sep) ∧ wr.cell? ⟨c + 2, 0, none⟩ = some (.int .i64 0) ∧ MaxW wr ∧ J pre wr) (fun _ _ wr => leftS c wr)
  case atStart => exact ⟨[], s, hs, by show Z = _; rw [HZ.out]; rfl, k0, f0, k1, k2, hm, h0⟩
  case round =>
    obtain ⟨pre, s', hs', HP, k0, f0, k1, k2, hm, hJ⟩ := hrel
    obtain ⟨m, hm1⟩ := hm
    have hpl : pre.length < N := by
      have h := congrArg List.length HP.out
      rw [hlen, List.length_append, List.length_map] at h
      have h3 := Lib.splitB_all sep h1 0 _ s' rfl
      omega
    have hc := Tryz.strings_Index s' sep m wr (by omega) hm1
    rcases Lib.indexB_cases s' sep with hix | ⟨i, hix, hib⟩
    · have hmiss := Lib.splitB_miss sep 0 (Lib.countB s' sep) s' hix
      rw [hmiss] at HP
      rw [show Lib.index s'.data.toList sep.data.toList = -1 from hix] at hc
      obtain ⟨fn, tmps, assign, body, hy, hR⟩ := hY pre ⟨s', hs'⟩ wr hJ hpl
      dsimp only at hy
      clear hmiss
      gi_wp2_with (refine ⟨trivial, ?_⟩; gi_at_call 103; refine (callsIn_wide.2 hc).mono ?_; rintro e w' ⟨rfl, rfl⟩)
      refine hR.mono ?_
      rintro e W3 (⟨rfl, hJ3, hk3⟩ | ⟨rfl, hJx3⟩)
      · gi_wp2
        go_end0
        exact ⟨⟨_, rfl⟩, .inl ⟨pre ++ [⟨s', hs'⟩], by rw [HP.out]; simp, hJ3⟩⟩
      · gi_wp2
        go_end0
        exact ⟨⟨_, rfl⟩, .inr ⟨pre ++ [⟨s', hs'⟩], by rw [HP.out]; simp, hJx3⟩⟩
    · have hhit := Lib.splitB_hit sep 0 (Lib.countB (s'.extract (i + sep.size) s'.size) sep) s' i hix
      have hcnt : Lib.countB s' sep = Lib.countB (s'.extract (i + sep.size) s'.size) sep + 1 := by
        have := Lib.countB_hit s' sep i h1 hix
        omega
      rw [hcnt, hhit, Nat.add_zero] at HP
      rw [show Lib.index s'.data.toList sep.data.toList = (i : Int) from hix] at hc
      have g1 := sliceTo s' i (by omega)
      have g2 := slice_from s' (i + sep.size) (by omega)
      have hT1 : (s'.extract 0 i).size ≤ 1048576 := by rw [ByteArray.size_extract]; omega
      have hT2 : (s'.extract (i + sep.size) s'.size).size < s'.size := by rw [ByteArray.size_extract]; omega
      obtain ⟨T1, e1⟩ : ∃ T1, s'.extract 0 i = T1 := ⟨_, rfl⟩
      obtain ⟨T2, e2⟩ : ∃ T2, s'.extract (i + sep.size) s'.size = T2 := ⟨_, rfl⟩
      rw [e1] at g1 hT1 HP
      rw [e2] at g2 hT2 HP
      rw [Int.natCast_add] at g2
      obtain ⟨fn, tmps, assign, body, hy, hR⟩ := hY pre ⟨T1, hT1⟩ wr hJ hpl
      dsimp only at hy
      have i0 : ¬ ((i : Int) < 0) := by omega
      clear hcnt hhit e1 e2 hix
      gi_wp2_with (refine ⟨trivial, ?_⟩; gi_at_call 103; refine (callsIn_wide.2 hc).mono ?_; rintro e w' ⟨rfl, rfl⟩)
      refine hR.mono ?_
      rintro e W3 (⟨rfl, hJ3, hk3⟩ | ⟨rfl, hJx3⟩)
      · have c0 := (hk3.cell (k := c) (o := 0) (by omega))
        have c1 := (hk3.cell (k := c + 1) (o := 0) (by omega))
        have c2 := (hk3.cell (k := c + 2) (o := 0) (by omega))
        rw [k0, f0] at c0
        rw [k1] at c1
        rw [k2] at c2
        obtain ⟨k0', f0'⟩ := c0
        have k1' := c1.1
        have k2' := c2.1
        have hm3 : W3.cell? ⟨0, 0, none⟩ = some (.int .i64 m) := by rw [(hk3.cell (k := 0) (o := 0) (.inl hBm)).1]; exact hm1
        have hL0 := leftS_eq k0
        clear c1 c2 k0 f0 k1 k2 hm1 hk3
        gi_wp2
        go_roundw
        case rel => exact ⟨pre ++ [⟨T1, hT1⟩], T2, by omega, by show Z = _; rw [HP.out]; simp, World.cell?_setCell_same' _ _ _ (by rw [k0']; rfl), by rw [World.frozen?_setCell]; exact f0', (World.cell?_of_block (a := ⟨c + 1, 0, none⟩) (heap_set_other W3 c (c + 1) _ (by omega))).trans k1', (World.cell?_of_block (a := ⟨c + 2, 0, none⟩) (heap_set_other W3 c (c + 2) _ (by omega))).trans k2', ⟨m, (World.cell?_of_block (a := ⟨0, 0, none⟩) (heap_set_other W3 c 0 _ (by omega))).trans hm3⟩, hJc _ _ _ hJ3⟩
        case measure => rw [hL0, leftS_eq (World.cell?_setCell_same' _ _ _ (by rw [k0']; rfl))]; exact hT2
      · gi_wp2
        refine bodyPost_ret (results_none rfl _ _ _) rfl ?_
        exact ⟨⟨_, rfl⟩, .inr ⟨pre ++ [⟨T1, hT1⟩], by rw [HP.out]; simp, hJx3⟩⟩
end Go.Proofs.YtdfnclnjnmdboaaGreatDoor

namespace Go.Proofs.YtdfnclnjnmdboaaGreatDoor
set_option linter.unusedVariables false
open Go.RowKit Go.Shelf

def seqV (c : Nat) : Value := .func (.func 101) #[] #[.pointer (some ⟨c + 1, 0, none⟩), .pointer (some ⟨c, 0, none⟩), .pointer (some ⟨c + 2, 0, none⟩)]
def seqW (w : World) (s sep : ByteArray) : World := ((w.alloc (.cells #[.string s] 9)).alloc (.cells #[.string sep] 9)).alloc (.cells #[.int .i64 0] 3)
theorem c_splitSeq (s sep : ByteArray) (w : World) : Calls Tryz.prog 67 #[.string s, .string sep, .int .i64 0] w fun e w' => e = .returned (seqV w.heap.size) ∧ w' = seqW w s sep := by
  go_enter Tryz.func67, Tryz.ntmps67
  go_wp2
  go_ret
  exact ⟨rfl, rfl⟩
theorem c_SplitSeq (s sep : ByteArray) (w : World) : Calls Tryz.prog 29 #[.string s, .string sep] w fun e w' => e = .returned (seqV w.heap.size) ∧ w' = seqW w s sep := by
  go_enter Tryz.func29, Tryz.ntmps29
  go_wp2_with fail
  refine (c_splitSeq s sep w).mono ?_
  rintro e w' ⟨rfl, rfl⟩
  go_wp2
  go_ret
  exact ⟨rfl, rfl⟩
theorem seqW_below (w : World) (s sep : ByteArray) : Below w.heap.size w (seqW w s sep) := (((Below.refl _ _).alloc (Nat.le_refl _) _).alloc (by simp) _).alloc (by simp; omega) _
theorem seqW_size (w : World) (s sep : ByteArray) : (seqW w s sep).heap.size = w.heap.size + 3 := by simp [seqW]
theorem seqW_cells (w : World) (s sep : ByteArray) : (seqW w s sep).cell? ⟨w.heap.size, 0, none⟩ = some (.string s) ∧ (seqW w s sep).frozen? ⟨w.heap.size, 0, none⟩ = false ∧ (seqW w s sep).cell? ⟨w.heap.size + 1, 0, none⟩ = some (.string sep) ∧ (seqW w s sep).cell? ⟨w.heap.size + 2, 0, none⟩ = some (.int .i64 0) := by
  refine ⟨?_, ?_, ?_, ?_⟩ <;> simp [seqW, go_sem]
theorem splitSeq_stops (n : Nat) (hn : 1 ≤ n) (s sep : ByteArray) (h1 : 1 ≤ sep.size) (h2 : sep.size ≤ 1048576) (hs : s.size ≤ 1048576) (B c : Nat) (hBm : 0 < B) (hcB : B ≤ c) (w : World) (hw : c + 3 ≤ w.heap.size) (hm : MaxW w)
    (k0 : w.cell? ⟨c, 0, none⟩ = some (.string s)) (f0 : w.frozen? ⟨c, 0, none⟩ = false) (k1 : w.cell? ⟨c + 1, 0, none⟩ = some (.string sep)) (k2 : w.cell? ⟨c + 2, 0, none⟩ = some (.int .i64 0)) :
    SeqCell Fence.wide n Tryz.prog 101 #[.pointer (some ⟨c + 1, 0, none⟩), .pointer (some ⟨c, 0, none⟩), .pointer (some ⟨c + 2, 0, none⟩)] (fun x : PieceB => #[Value.string x.1]) (KeepsC B c)
      (fun ys => ys.map (·.1) = Lib.splitB sep 0 (Lib.countB s sep) s) (fun pre => pre.map (·.1) <+: Lib.splitB sep 0 (Lib.countB s sep) s) (Lib.countB s sep + 1) c w := by
  intro l J Jx W hW _ _ hJc hY h0
  exact c_splitSeq1 n hn l B c s sep h1 h2 hs J Jx hJc hY hBm W (hm.below hW) ((hW.cell (p := ⟨c, 0, none⟩) (by show c < _; omega)).trans k0) ((World.frozen?_of_block (a := ⟨c, 0, none⟩) (hW.block c (by omega))).trans f0)
    ((hW.cell (p := ⟨c + 1, 0, none⟩) (by show c + 1 < _; omega)).trans k1) ((hW.cell (p := ⟨c + 2, 0, none⟩) (by show c + 2 < _; omega)).trans k2) hcB h0
end Go.Proofs.YtdfnclnjnmdboaaGreatDoor
