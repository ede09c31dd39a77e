/- Lemmas and contracts for ReadTableX (Sq2): plain words on memory, contracts of the functions that the law reaches. No condition but what each states. -/
import Derived.Test.YtgjaajfpdajleaaGreatDoorSq1
import Derived.Test.YtgjaajfpdajleaaGreatDoorMReadTableXPgrP
import Derived.Test.YtgjaajfpdajleaaGreatDoorMReadTableXShort2
import Derived.Lib.SplitLaws
import Derived.Lib.CutLaws
namespace Go.Proofs.YtgjaajfpdajleaaGreatDoor
set_option linter.unusedVariables false
open Go.RowKit Go.Shelf
attribute [local go_sem] Oper.semAt_some

abbrev PieceB := { x : ByteArray // x.size ≤ 1048576 }
/-- what a round keeps: whatever lay below B, and the iterator's three cells from c on -/
def KeepsC (B c : Nat) (W W' : World) : Prop := W.heap.size ≤ W'.heap.size ∧ ∀ k, (k < B ∨ (c ≤ k ∧ k < c + 3)) → W'.heap[k]? = W.heap[k]?
theorem KeepsC.trans {B c : Nat} {x y z : World} (h : KeepsC B c x y) (k : KeepsC B c y z) : KeepsC B c x z := ⟨Nat.le_trans h.1 k.1, fun i hi => (k.2 i hi).trans (h.2 i hi)⟩
theorem KeepsC.putObj {B c : Nat} {w : World} (hB : B ≤ w.heap.size) (hc : c + 3 ≤ w.heap.size) (W : World) (l : Nat) (o o' : Obj) (hl : w.heap.size ≤ l) (h : W.heap[l]? = some o) (_ : o.isCells = false) (_ : o.isWalk = false) : KeepsC B c W (W.putObj l o') :=
  ⟨(grownBy_putObj' W l o').size, fun k hk => World.putObj_heap_other (by omega)⟩
theorem KeepsC.cell {B c : Nat} {W W' : World} (h : KeepsC B c W W') {k o : Nat} (hk : k < B ∨ (c ≤ k ∧ k < c + 3)) : W'.cell? ⟨k, o, none⟩ = W.cell? ⟨k, o, none⟩ ∧ W'.frozen? ⟨k, o, none⟩ = W.frozen? ⟨k, o, none⟩ :=
  ⟨World.cell?_of_block (a := ⟨k, o, none⟩) (h.2 k hk), World.frozen?_of_block (a := ⟨k, o, none⟩) (h.2 k hk)⟩
def leftS (c : Nat) (W : World) : Nat := match W.cell? ⟨c, 0, none⟩ with
  | some (.string s) => s.size
  | _ => 0
theorem leftS_eq {c : Nat} {W : World} {s : ByteArray} (h : W.cell? ⟨c, 0, none⟩ = some (.string s)) : leftS c W = s.size := by unfold leftS; rw [h]
theorem sliceTo (y : ByteArray) (n : Nat) (h : n ≤ y.size) (W : World) : (Instr.slice 9 (.string y) none (some (.int .i64 (n : Int))) none).run Tryz.prog W = .ok (.string (y.extract 0 n)) W := by
  rw [run_slice_string_to_if W 9 y .i64 n Tryz.underlying9, if_pos (by omega), Int.toNat_natCast]
set_option maxRecDepth 100000 in
set_option maxHeartbeats 2000000 in
theorem c_splitSeq1 (n : Nat) (hn : 1 ≤ n) (l B c : Nat) (s sep : ByteArray) (h1 : 1 ≤ sep.size) (h2 : sep.size ≤ 1048576) (hs : s.size ≤ 1048576) (J Jx : List PieceB → World → Prop)
    (hJc : ∀ s W1 v, J s W1 → J s (W1.setCell ⟨c, 0, none⟩ v))
    (hY : ∀ pre x W, J pre W → pre.length < Lib.countB s sep + 1 → YieldAt Fence.wide (n - 1) Tryz.prog l #[.string x.1] W fun e W' =>
      (e = .returned (.bool true) ∧ J (pre ++ [x]) W' ∧ KeepsC B c W W') ∨ (e = .returned (.bool false) ∧ Jx (pre ++ [x]) W'))
    (hBm : 2 < B) (W : World) (hm : MaxW W) (k0 : W.cell? ⟨c, 0, none⟩ = some (.string s)) (f0 : W.frozen? ⟨c, 0, none⟩ = false) (k1 : W.cell? ⟨c + 1, 0, none⟩ = some (.string sep)) (k2 : W.cell? ⟨c + 2, 0, none⟩ = some (.int .i64 0)) (hcB : B ≤ c) (h0 : J [] W) :
    CallsIn Fence.wide n Tryz.prog 108 #[.func (.yield l) #[] #[], .pointer (some ⟨c + 1, 0, none⟩), .pointer (some ⟨c, 0, none⟩), .pointer (some ⟨c + 2, 0, none⟩)] W fun e W' => (∃ v, e = .returned v) ∧
      ((∃ ys, ys.map (·.1) = Lib.splitB sep 0 (Lib.countB s sep) s ∧ J ys W') ∨ (∃ pre, (pre.map (·.1) <+: Lib.splitB sep 0 (Lib.countB s sep) s) ∧ Jx pre W')) := by
  have hlen : (Lib.splitB sep 0 (Lib.countB s sep) s).length = Lib.countB s sep + 1 := Lib.splitB_all sep h1 0 _ s rfl
  obtain ⟨Z, hZ⟩ : ∃ Z, Lib.splitB sep 0 (Lib.countB s sep) s = Z := ⟨_, rfl⟩
  obtain ⟨N, hN⟩ : ∃ N, Lib.countB s sep + 1 = N := ⟨_, rfl⟩
  rw [hZ, hN] at hlen
  rw [hN] at hY
  have HZ : Hid (Lib.splitB sep 0 (Lib.countB s sep) s = Z) := hZ
  have e0 : ((sep.size : Int) == 0) = false := beq_eq_false_iff_ne.2 (by omega)
  rw [hZ]
  clear hZ hN
  refine callsIn_of_wp Tryz.func108 rfl trivial ?_ rfl
  simp only [Tryz.ntmps108, List.size_toArray, List.length_cons, List.length_nil, Nat.reduceAdd, Nat.reduceSub, Array.replicate_succ, Array.replicate_zero, List.push_toArray, List.append_toArray, List.nil_append, List.cons_append]
  gi_wp2
  gi_loopw [7, 8] (fun i f wr => ∃ (pre : List PieceB) (s' : ByteArray), s'.size ≤ 1048576 ∧ Hid (Z = pre.map (·.1) ++ Lib.splitB sep 0 (Lib.countB s' sep) s') ∧ wr.cell? ⟨c, 0, none⟩ = some (.string s') ∧ wr.frozen? ⟨c, 0, none⟩ = false ∧ wr.cell? ⟨c + 1, 0, none⟩ = some (.string sep) ∧ wr.cell? ⟨c + 2, 0, none⟩ = some (.int .i64 0) ∧ MaxW wr ∧ J pre wr) (fun _ _ wr => leftS c wr)
  case atStart => exact ⟨[], s, hs, by show Z = _; rw [HZ.out]; rfl, k0, f0, k1, k2, hm, h0⟩
  case round =>
    obtain ⟨pre, s', hs', HP, k0, f0, k1, k2, hm, hJ⟩ := hrel
    obtain ⟨m, hm1⟩ := hm
    have hpl : pre.length < N := by
      have h := congrArg List.length HP.out
      rw [hlen, List.length_append, List.length_map] at h
      have h3 := Lib.splitB_all sep h1 0 _ s' rfl
      omega
    have hc := Tryz.strings_Index s' sep m wr (by omega) hm1
    rcases Lib.indexB_cases s' sep with hix | ⟨i, hix, hib⟩
    · have hmiss := Lib.splitB_miss sep 0 (Lib.countB s' sep) s' hix
      rw [hmiss] at HP
      rw [show Lib.index s'.data.toList sep.data.toList = -1 from hix] at hc
      obtain ⟨fn, tmps, assign, body, hy, hR⟩ := hY pre ⟨s', hs'⟩ wr hJ hpl
      dsimp only at hy
      clear hmiss
      gi_wp2_with (refine ⟨trivial, ?_⟩; gi_at_call 110; refine (callsIn_wide.2 hc).mono ?_; rintro e w' ⟨rfl, rfl⟩)
      refine hR.mono ?_
      rintro e W3 (⟨rfl, hJ3, hk3⟩ | ⟨rfl, hJx3⟩)
      · gi_wp2
        go_end0
        exact ⟨⟨_, rfl⟩, .inl ⟨pre ++ [⟨s', hs'⟩], by rw [HP.out]; simp, hJ3⟩⟩
      · gi_wp2
        go_end0
        exact ⟨⟨_, rfl⟩, .inr ⟨pre ++ [⟨s', hs'⟩], by rw [HP.out]; simp, hJx3⟩⟩
    · have hhit := Lib.splitB_hit sep 0 (Lib.countB (s'.extract (i + sep.size) s'.size) sep) s' i hix
      have hcnt : Lib.countB s' sep = Lib.countB (s'.extract (i + sep.size) s'.size) sep + 1 := by
        have := Lib.countB_hit s' sep i h1 hix
        omega
      rw [hcnt, hhit, Nat.add_zero] at HP
      rw [show Lib.index s'.data.toList sep.data.toList = (i : Int) from hix] at hc
      have g1 := sliceTo s' i (by omega)
      have g2 := slice_from s' (i + sep.size) (by omega)
      have hT1 : (s'.extract 0 i).size ≤ 1048576 := by rw [ByteArray.size_extract]; omega
      have hT2 : (s'.extract (i + sep.size) s'.size).size < s'.size := by rw [ByteArray.size_extract]; omega
      obtain ⟨T1, e1⟩ : ∃ T1, s'.extract 0 i = T1 := ⟨_, rfl⟩
      obtain ⟨T2, e2⟩ : ∃ T2, s'.extract (i + sep.size) s'.size = T2 := ⟨_, rfl⟩
      rw [e1] at g1 hT1 HP
      rw [e2] at g2 hT2 HP
      rw [Int.natCast_add] at g2
      obtain ⟨fn, tmps, assign, body, hy, hR⟩ := hY pre ⟨T1, hT1⟩ wr hJ hpl
      dsimp only at hy
      have i0 : ¬ ((i : Int) < 0) := by omega
      clear hcnt hhit e1 e2 hix
      gi_wp2_with (refine ⟨trivial, ?_⟩; gi_at_call 110; refine (callsIn_wide.2 hc).mono ?_; rintro e w' ⟨rfl, rfl⟩)
      refine hR.mono ?_
      rintro e W3 (⟨rfl, hJ3, hk3⟩ | ⟨rfl, hJx3⟩)
      · have c0 := (hk3.cell (k := c) (o := 0) (by omega))
        have c1 := (hk3.cell (k := c + 1) (o := 0) (by omega))
        have c2 := (hk3.cell (k := c + 2) (o := 0) (by omega))
        rw [k0, f0] at c0
        rw [k1] at c1
        rw [k2] at c2
        obtain ⟨k0', f0'⟩ := c0
        have k1' := c1.1
        have k2' := c2.1
        have hm3 : W3.cell? ⟨2, 0, none⟩ = some (.int .i64 m) := by rw [(hk3.cell (k := 2) (o := 0) (.inl hBm)).1]; exact hm1
        have hL0 := leftS_eq k0
        clear c1 c2 k0 f0 k1 k2 hm1 hk3
        gi_wp2
        go_roundw
        case rel => exact ⟨pre ++ [⟨T1, hT1⟩], T2, by omega, by show Z = _; rw [HP.out]; simp, World.cell?_setCell_same' _ _ _ (by rw [k0']; rfl), by rw [World.frozen?_setCell]; exact f0', (World.cell?_of_block (a := ⟨c + 1, 0, none⟩) (heap_set_other W3 c (c + 1) _ (by omega))).trans k1', (World.cell?_of_block (a := ⟨c + 2, 0, none⟩) (heap_set_other W3 c (c + 2) _ (by omega))).trans k2', ⟨m, (World.cell?_of_block (a := ⟨2, 0, none⟩) (heap_set_other W3 c 2 _ (by omega))).trans hm3⟩, hJc _ _ _ hJ3⟩
        case measure => rw [hL0, leftS_eq (World.cell?_setCell_same' _ _ _ (by rw [k0']; rfl))]; exact hT2
      · gi_wp2
        refine bodyPost_ret (results_none rfl _ _ _) rfl ?_
        exact ⟨⟨_, rfl⟩, .inr ⟨pre ++ [⟨T1, hT1⟩], by rw [HP.out]; simp, hJx3⟩⟩
end Go.Proofs.YtgjaajfpdajleaaGreatDoor
