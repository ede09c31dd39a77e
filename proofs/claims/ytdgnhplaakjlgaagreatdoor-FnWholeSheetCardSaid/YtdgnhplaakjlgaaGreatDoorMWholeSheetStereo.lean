/- Lemmas and contracts for WholeSheet (Stereo): plain words on memory, contracts of the functions that the law reaches. No condition but what each states. -/
import Derived.Test.YtdgnhplaakjlgaaGreatDoorMWholeSheetMir
import Derived.Test.YtdgnhplaakjlgaaGreatDoorMWholeSheetStrs
import Derived.Test.YtdgnhplaakjlgaaGreatDoorMWholeSheetLines
namespace Go.Proofs.YtdgnhplaakjlgaaGreatDoor
set_option linter.unusedVariables false
open Go.RowKit

def lng (xs : List ByteArray) : Nat := xs.foldl (fun m s => max m s.size) 0
theorem lng_succ (xs : List ByteArray) (k : Nat) (hk : k < xs.length) : lng (xs.take (k + 1)) = max (lng (xs.take k)) (xs.getD k noS).size := by
  unfold lng
  rw [List.take_add_one, List.foldl_append]
  simp [List.getD, hk]
theorem foldl_max_le (xs : List ByteArray) (m : Nat) : m ≤ xs.foldl (fun m s => max m s.size) m ∧ ∀ s ∈ xs, s.size ≤ xs.foldl (fun m s => max m s.size) m := by
  induction xs generalizing m with
  | nil => simp
  | cons x xs ih =>
    simp only [List.foldl_cons]
    obtain ⟨h1, h2⟩ := ih (max m x.size)
    refine ⟨by omega, fun s hs => ?_⟩
    rcases List.mem_cons.1 hs with rfl | hs
    · omega
    · exact h2 s hs
theorem lng_ge {xs : List ByteArray} {s : ByteArray} (h : s ∈ xs) : s.size ≤ lng xs := (foldl_max_le xs 0).2 s h
theorem lng_bd {xs : List ByteArray} {B : Nat} (h : ∀ s ∈ xs, s.size ≤ B) : lng xs ≤ B := by
  unfold lng
  suffices ∀ m, m ≤ B → xs.foldl (fun m s => max m s.size) m ≤ B from this 0 (Nat.zero_le _)
  induction xs with
  | nil => intro m hm; exact hm
  | cons x xs ih =>
    intro m hm
    have := h x (List.mem_cons_self ..)
    exact ih (fun s hs => h s (List.mem_cons_of_mem _ hs)) _ (show max m x.size ≤ B by omega)
theorem linesB_iff {xs : List ByteArray} (h : linesB xs = true) : xs.length ≤ 40 ∧ ∀ s ∈ xs, s.size ≤ 100 := by
  unfold linesB at h
  simp only [Bool.and_eq_true, decide_eq_true_eq, List.all_eq_true] at h
  refine ⟨h.1, fun s hs => ?_⟩
  have := h.2 s hs
  unfold lvB at this
  simp only [Bool.and_eq_true, decide_eq_true_eq] at this
  exact this.1.1
/-- a line in reverse order, with spaces before it up to a length -/
def mirL (l : List UInt8) (m : Nat) : List UInt8 := List.replicate (m - l.length) 32 ++ l.reverse
def mirS (m : Nat) (s : ByteArray) : ByteArray := ⟨(mirL s.data.toList m).toArray⟩
theorem mirS_is (m : Nat) (s : ByteArray) : IsS (mirS m s) (mirL s.data.toList m) := IsS.mk _
def plateF (xs : List ByteArray) : List ByteArray := if linesB xs = true then xs.map (mirS (lng xs)) else []
theorem plateF_len (xs : List ByteArray) : (plateF xs).length ≤ 40 := by
  unfold plateF
  split
  · rename_i h; rw [List.length_map]; exact (linesB_iff h).1
  · simp
theorem mir_impl (s : ByteArray) (m : Nat) (hs : s.size ≤ m) : (s.data.toList ++ List.replicate (m - s.size) 32).reverse = mirL s.data.toList m := by
  unfold mirL
  rw [List.reverse_append, List.reverse_replicate, size_data]

set_option maxHeartbeats 1000000 in
theorem c_impl_StereotypeOf (v : Value) (xs : List ByteArray) (w : World) (ha : RdS w v xs) (hx : xs.length ≤ 9223372036854775807) (hs : ∀ s ∈ xs, s.size ≤ 9223372036854775807) :
    Calls Tryz.prog 16 #[v] w (FreshS w (plateF xs)) := by
  have ha0 := ha
  obtain ⟨a, cap, rfl, ha1⟩ := ha0
  clear ha1
  simp only [List.length_map] at ha ⊢
  have hc := c_impl_LinesValid (.slice a xs.length cap) xs w ha hx hs
  cases hv : linesB xs
  · have E : Hid (plateF xs = []) := by show _ = _; unfold plateF; rw [hv]; rfl
    rw [hv] at hc
    clear hv
    go_enter Tryz.func16, Tryz.ntmps16
    go_wp2_with (first | (go_at_call 50; refine hc.mono ?_; rintro e w1 ⟨rfl, hB1⟩))
    go_ret
    exact ⟨_, rfl, by rw [E.out]; exact OwnS_nil _ _, hB1⟩
  · obtain ⟨hx40, hs100⟩ := linesB_iff hv
    have hlng := lng_bd hs100
    have E : Hid (plateF xs = xs.map (mirS (lng xs))) := by show _ = _; unfold plateF; rw [hv]; rfl
    rw [hv] at hc
    clear hv hs
    go_enter Tryz.func16, Tryz.ntmps16
    go_wp2_with (first | (go_at_call 50; refine hc.mono ?_; rintro e w1 ⟨rfl, hB1⟩))
    go_loop [3, 14] (fun m i => ∃ k : Nat, k ≤ xs.length ∧ i = .int .i64 k ∧ m = .int .i64 (lng (xs.take k))) (fun _ i => xs.length - (intOf i).toNat)
    case atStart => exact ⟨0, by omega, rfl, rfl⟩
    case round =>
      obtain ⟨k, hk, rfl, rfl⟩ := hrel
      by_cases hlt : k < xs.length
      · obtain ⟨b1, o1, rfl, hb1, e1⟩ := RdS_cell ha hB1 hlt
        have hsn := lng_succ xs k hlt
        have h1 : (xs.getD k noS).size ≤ 100 := hs100 _ (by simp [List.getD, hlt])
        have h2 : lng (xs.take k) ≤ 100 := lng_bd (fun s hs => hs100 s (List.mem_of_mem_take hs))
        obtain ⟨y, hy⟩ : ∃ y, xs.getD k noS = y := ⟨_, rfl⟩
        rw [hy] at e1 hsn h1
        have HS : Hid _ := hsn
        clear hsn hy ha hs100
        go_wp2
        go_round
        case rel => exact ⟨k + 1, by omega, by go_num, by rw [HS.out]; congr 1; omega⟩
        case measure => simp [intOf]; omega
      · have hk2 : lng (xs.take k) = lng xs := by rw [List.take_of_length_le (by omega)]
        rw [hk2]
        clear hk2
        obtain ⟨M, hM⟩ : ∃ M, lng xs = M := ⟨_, rfl⟩
        have hle : ∀ s ∈ xs, s.size ≤ M := fun s h => by rw [← hM]; exact lng_ge h
        rw [hM] at hlng E ⊢
        clear hM
        go_wp2_with (at_make; refine mkfull 25 9 Tryz.underlying25 infoStr rfl (by decide) rfl _ _ rfl xs.length rfl rfl rfl rfl (by omega) ?_; intro w2 ho2 hB2 hz2)
        go_loopw [7, 8, 28] (fun a b i wr => ∃ k : Nat, k ≤ xs.length ∧ i = .int .i64 k ∧ wr.ownsRow w1.heap.size 9 1 (.slice (some ⟨w1.heap.size, 0, none⟩) xs.length xs.length) xs.length (fill (fun i => .string (mirS M (xs.getD i noS))) (.string noS) k xs.length) ∧ Below w1.heap.size w1 wr) (fun _ _ i _ => xs.length - (intOf i).toNat)
        case atStart => exact ⟨0, by omega, rfl, by rw [fill_zero]; exact ho2, hB2⟩
        case round =>
          obtain ⟨k, hk, rfl, ho, hB⟩ := hrel
          by_cases hlt : k < xs.length
          · obtain ⟨b1, o1, rfl, hb1, e1⟩ := RdS_cell ha (bthen hB1 hB) hlt
            have h1 : (xs.getD k noS).size ≤ M := hle _ (by simp [List.getD, hlt])
            obtain ⟨y, hy⟩ : ∃ y, xs.getD k noS = y := ⟨_, rfl⟩
            rw [hy] at e1 h1
            have hmi := mir_impl y M h1
            have HM : Hid _ := hmi
            have HN : Hid (((M : Int) - (y.size : Int)).toNat = M - y.size) := by show _ = _; omega
            clear hmi
            go_wp2_with fail
            refine (c_RepeatSp _ _ (by omega) (by omega)).mono ?_
            rw [HN.out]
            rintro e w3 ⟨Y, rfl, hY, hB3⟩
            have hYs := hY.size
            rw [List.length_replicate] at hYs
            have hYs' : Y.size ≤ 100 := by omega
            clear hYs
            replace ho := ownsRow_kept_below ho hB3
            replace hB := bthen hB hB3
            clear hB3
            have hZ : IsS (y ++ Y) (y.data.toList ++ List.replicate (M - y.size) 32) := (IsS.self y).app hY
            go_wp2_with fail
            refine (c_mirrored _ _ (by rw [ByteArray.size_append]; omega)).mono ?_
            rintro e w4 ⟨Z, rfl, hZ2, hB4⟩
            replace ho := ownsRow_kept_below ho hB4
            replace hB := bthen hB hB4
            rw [show (y ++ Y).data.toList = y.data.toList ++ List.replicate (M - y.size) 32 from hZ, HM.out] at hZ2
            have hZe : Z = mirS M y := hZ2.inj (mirS_is M y)
            subst hZe
            obtain ⟨⟨x, e2⟩, e3, ho3⟩ := fill_step ho hlt
            simp only [hy] at ho3
            have HO : Hid (_ ∧ _) := ⟨ho3, hB.setCell (p := ⟨w1.heap.size, k, none⟩) (Nat.le_refl _) (.string (mirS M y))⟩
            clear ho ho3 hB hB4 hZ hZ2 hY ho2 hB2 e1 ha hB1 hc hle hs100 hy
            go_wp2
            go_roundw
            case rel => exact ⟨k + 1, by omega, by go_num, HO.out.1, HO.out.2⟩
            case measure => simp [intOf]; omega
          · have HO : Hid (OwnS wr w.heap.size (.slice (some ⟨w1.heap.size, 0, none⟩) xs.length xs.length) (plateF xs) ∧ Below w.heap.size w wr) := by
              have : k = xs.length := by omega
              subst this
              rw [fill_end, map_getD_endS xs (mirS M)] at ho
              refine ⟨?_, bthen hB1 hB⟩
              rw [E.out]
              have h := ownsRow_monoS ho hB1.size
              unfold OwnS
              simpa using h
            clear ho hB ha ho2 hB2 hB1
            go_wp2
            go_ret
            exact ⟨_, rfl, HO.out.1, HO.out.2⟩
end Go.Proofs.YtdgnhplaakjlgaaGreatDoor
