/- Lemmas and contracts for ReadTableX (Sq3): plain words on memory, contracts of the functions that the law reaches. No condition but what each states. -/
import Derived.Test.YtgjaajfpdajleaaGreatDoorMReadTableXSq2
namespace Go.Proofs.YtgjaajfpdajleaaGreatDoor
set_option linter.unusedVariables false
open Go.RowKit Go.Shelf

def seqV (c : Nat) : Value := .func (.func 108) #[] #[.pointer (some ⟨c + 1, 0, none⟩), .pointer (some ⟨c, 0, none⟩), .pointer (some ⟨c + 2, 0, none⟩)]
def seqW (w : World) (s sep : ByteArray) : World := ((w.alloc (.cells #[.string s] 9)).alloc (.cells #[.string sep] 9)).alloc (.cells #[.int .i64 0] 3)
theorem c_splitSeq (s sep : ByteArray) (w : World) : Calls Tryz.prog 86 #[.string s, .string sep, .int .i64 0] w fun e w' => e = .returned (seqV w.heap.size) ∧ w' = seqW w s sep := by
  go_enter Tryz.func86, Tryz.ntmps86
  go_wp2
  go_ret
  exact ⟨rfl, rfl⟩
theorem c_SplitSeq (s sep : ByteArray) (w : World) : Calls Tryz.prog 46 #[.string s, .string sep] w fun e w' => e = .returned (seqV w.heap.size) ∧ w' = seqW w s sep := by
  go_enter Tryz.func46, Tryz.ntmps46
  go_wp2_with fail
  refine (c_splitSeq s sep w).mono ?_
  rintro e w' ⟨rfl, rfl⟩
  go_wp2
  go_ret
  exact ⟨rfl, rfl⟩
theorem seqW_below (w : World) (s sep : ByteArray) : Below w.heap.size w (seqW w s sep) := (((Below.refl _ _).alloc (Nat.le_refl _) _).alloc (by simp) _).alloc (by simp; omega) _
theorem seqW_size (w : World) (s sep : ByteArray) : (seqW w s sep).heap.size = w.heap.size + 3 := by simp [seqW]
theorem seqW_cells (w : World) (s sep : ByteArray) : (seqW w s sep).cell? ⟨w.heap.size, 0, none⟩ = some (.string s) ∧ (seqW w s sep).frozen? ⟨w.heap.size, 0, none⟩ = false ∧ (seqW w s sep).cell? ⟨w.heap.size + 1, 0, none⟩ = some (.string sep) ∧ (seqW w s sep).cell? ⟨w.heap.size + 2, 0, none⟩ = some (.int .i64 0) := by
  refine ⟨?_, ?_, ?_, ?_⟩ <;> simp [seqW, go_sem]
theorem splitSeq_stops (n : Nat) (hn : 1 ≤ n) (s sep : ByteArray) (h1 : 1 ≤ sep.size) (h2 : sep.size ≤ 1048576) (hs : s.size ≤ 1048576) (B c : Nat) (hBm : 2 < B) (hcB : B ≤ c) (w : World) (hw : c + 3 ≤ w.heap.size) (hm : MaxW w)
    (k0 : w.cell? ⟨c, 0, none⟩ = some (.string s)) (f0 : w.frozen? ⟨c, 0, none⟩ = false) (k1 : w.cell? ⟨c + 1, 0, none⟩ = some (.string sep)) (k2 : w.cell? ⟨c + 2, 0, none⟩ = some (.int .i64 0)) :
    SeqCell Fence.wide n Tryz.prog 108 #[.pointer (some ⟨c + 1, 0, none⟩), .pointer (some ⟨c, 0, none⟩), .pointer (some ⟨c + 2, 0, none⟩)] (fun x : PieceB => #[Value.string x.1]) (KeepsC B c)
      (fun ys => ys.map (·.1) = Lib.splitB sep 0 (Lib.countB s sep) s) (fun pre => pre.map (·.1) <+: Lib.splitB sep 0 (Lib.countB s sep) s) (Lib.countB s sep + 1) c w := by
  intro l J Jx W hW _ _ hJc hY h0
  exact c_splitSeq1 n hn l B c s sep h1 h2 hs J Jx hJc hY hBm W (hm.below hW) ((hW.cell (p := ⟨c, 0, none⟩) (by show c < _; omega)).trans k0) ((World.frozen?_of_block (a := ⟨c, 0, none⟩) (hW.block c (by omega))).trans f0)
    ((hW.cell (p := ⟨c + 1, 0, none⟩) (by show c + 1 < _; omega)).trans k1) ((hW.cell (p := ⟨c + 2, 0, none⟩) (by show c + 2 < _; omega)).trans k2) hcB h0
end Go.Proofs.YtgjaajfpdajleaaGreatDoor
