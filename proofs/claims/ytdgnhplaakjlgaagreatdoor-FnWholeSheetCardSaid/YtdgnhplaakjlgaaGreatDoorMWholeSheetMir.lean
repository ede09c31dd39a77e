/- Lemmas and contracts for WholeSheet (Mir): plain words on memory, contracts of the functions that the law reaches. No condition but what each states. -/
import Derived.Test.YtdgnhplaakjlgaaGreatDoorMWholeSheetMany
import Derived.Test.YtdgnhplaakjlgaaGreatDoorMWholeSheetEnc
import Derived.Laws.IdiomStrings
namespace Go.Proofs.YtdgnhplaakjlgaaGreatDoor
set_option linter.unusedVariables false
open Go.RowKit

theorem bytes_new (w : World) (s : ByteArray) : ∃ cap W1, (convert 9 22 (.string s)).run Tryz.prog w = .ok (.slice (some ⟨w.heap.size, 0, none⟩) s.size cap) W1 ∧
    Sort.Holds encB W1 w.heap.size 0 s.data.toList.toArray ∧ Below w.heap.size w W1 ∧ w.heap.size < W1.heap.size := by
  refine ⟨_, _, run_bytes_of_string (P := Tryz.prog) w 9 22 5 s Tryz.underlying9 Tryz.underlying22 Tryz.underlying5, ?_, ((Below.refl _ _).drew).alloc (Nat.le_refl _) _, by simp⟩
  intro j hj
  have hj' : j < s.data.size := by simpa using hj
  have hh : ∀ o : Obj, (w.drew.alloc o).heap[w.heap.size]? = some o := fun o => heap_alloc_new w.drew o
  refine ⟨?_, ?_⟩
  · rw [World.cell?]
    simp only [hh, Nat.zero_add]
    unfold bytesRow
    rw [Array.getElem?_append_left (by simpa using hj'), Array.getElem?_map, Array.getElem?_eq_getElem hj']
    simp only [Option.map_some, Option.isSome_none, Bool.false_eq_true, if_false, encB]
    rw [getElem!_pos _ j (by simpa using hj')]
  · rw [World.frozen?]
    simp only [hh, Nat.zero_add]
    have hz : (bytesRow s (grownCap w s.size 0 5)).size ≥ s.data.size := by unfold bytesRow; rw [Array.size_append, Array.size_map]; omega
    rw [decide_eq_false (by omega)]
    rfl

theorem below_putRow {α : Type} [Inhabited α] {enc : α → Value} {w0 w : World} {b off : Nat} {d : Array α} (h : Below w0.heap.size w0 w) (hb : w0.heap.size ≤ b) : Below w0.heap.size w0 (Sort.putRow enc w b off d) := by
  refine ⟨h.os, h.tape, h.output, by rw [Sort.size_putRow]; exact h.size, fun k hk => ?_⟩
  rw [← h.block k hk]
  unfold Sort.putRow Sort.mapBlock
  simp only [Array.getElem?_modify]
  rw [if_neg (by omega)]
set_option maxHeartbeats 400000 in
theorem c_mirrored (s : ByteArray) (w : World) (hs : s.size ≤ 1099511627776) :
    Calls Tryz.prog 49 #[.string s] w (StrB s.data.toList.reverse w) := by
  obtain ⟨cap, W1, hr, hH, hB, hlt⟩ := bytes_new w s
  have hc := Tryz.slices_Reverse_bytes encB encB_one w.heap.size 0 cap s.data.toList W1 hH (by rw [size_data]; omega)
  have hback := fun n => string_back (Sort.putRow encB (Sort.ahead W1 n) w.heap.size 0 s.data.toList.reverse.toArray) w.heap.size cap s.data.toList.reverse
    (Sort.holds_putRow encB (Sort.ahead W1 n) w.heap.size 0 _ _ (Sort.holds_ahead encB W1 n w.heap.size 0 _ hH) (by simp))
  have hB2 := fun n => below_putRow (enc := encB) (w := Sort.ahead W1 n) (b := w.heap.size) (off := 0) (d := s.data.toList.reverse.toArray) (show Below w.heap.size w (Sort.ahead W1 n) from ⟨hB.os, hB.tape, hB.output, hB.size, hB.block⟩) (Nat.le_refl _)
  rw [List.length_reverse, size_data] at hback
  rw [size_data] at hc
  generalize s.data.toList.reverse = R at hc hback hB2 ⊢
  have HB : Hid (∀ n, Below w.heap.size w _) := hB2
  clear hB2 hH hB
  go_enter Tryz.func49, Tryz.ntmps49
  go_wp2_with (go_at_call 75; refine hc.mono ?_; rintro e w2 ⟨rfl, n, hw⟩; have hb := hback n; have HB2 := HB.out n; rw [← hw] at hb HB2; clear hw hback hc)
  go_ret
  exact ⟨_, rfl, IsS.mk _, HB2⟩
end Go.Proofs.YtdgnhplaakjlgaaGreatDoor
