/- Contracts: the reference's plate of lines. -/
import Derived.Test.YthpchphncelkpaaDoorStereo
import Derived.WalkSpells
namespace Go.Proofs.YthpchphncelkpaaDoor
set_option linter.unusedVariables false
open Go.RowKit

theorem mir_step {s O : ByteArray} {p : List UInt8} {j : Nat} (h : IsS O (p ++ (s.data.toList.drop (j + 1)).reverse)) (hj : j < s.size) : IsS (O ++ s.extract j (j + 1)) (p ++ (s.data.toList.drop j).reverse) := by
  have h2 := h.app ((IsS.self s).ext j (j + 1))
  refine h2.cast ?_
  have hj' : j < s.data.toList.length := by rw [size_data]; exact hj
  rw [List.drop_eq_getElem_cons hj']
  simp

set_option maxHeartbeats 400000 in
theorem c_l6Mirror (s : ByteArray) (m : Int) (w : World) (hs : s.size ≤ 1099511627776) (h0 : 0 ≤ m) (hm : m ≤ 1099511627776) :
    Calls Tryd.prog 62 #[.string s, (.int .i64 (m))] w (StrQ (mirL s.data.toList m.toNat) w) := by
  have hE : mirL s.data.toList m.toNat = List.replicate (m - s.size).toNat 32 ++ s.data.toList.reverse := by
    unfold mirL; rw [size_data]; congr 2; omega
  rw [hE]
  have hlen : (List.replicate (m - s.size).toNat (32 : UInt8)).length ≤ 1099511627776 := by rw [List.length_replicate]; omega
  have hc := c_ManySp 32 (m - s.size) w (by omega)
  generalize List.replicate (m - s.size).toNat (32 : UInt8) = p at hc hlen ⊢
  clear hE
  go_enter Tryd.func62, Tryd.ntmps62
  go_wp2_with (go_at_call 55; refine hc.mono ?_; rintro e w' ⟨Y, rfl, hY, rfl⟩)
  go_loop [5, 6] (fun o i => ∃ (k : Nat) (O : ByteArray) (z : Int), k ≤ s.size ∧ z = (k : Int) - 1 ∧ i = .int .i64 z ∧ o = .string O ∧ IsS O (p ++ (s.data.toList.drop k).reverse)) (fun _ i => (intOf i + 1).toNat)
  case atStart => exact ⟨s.size, Y, _, Nat.le_refl _, rfl, rfl, rfl, hY.cast (by rw [List.drop_eq_nil_of_le (by rw [size_data]; omega)]; simp)⟩
  case round =>
    obtain ⟨k, O, z, hk, hz, rfl, rfl, hO⟩ := hrel
    have hOs := hO.size
    rw [List.length_append, List.length_reverse, List.length_drop, size_data] at hOs
    have hO1 : O.size ≤ 2199023255552 := by omega
    clear hOs
    by_cases hp : 0 < k
    · obtain ⟨j, rfl⟩ : ∃ j, k = j + 1 := ⟨k - 1, by omega⟩
      obtain rfl : z = (j : Int) := by omega
      have hS := mir_step hO (by omega)
      have hj1 : (j : Int) + 1 ≤ (s.size : Int) := by omega
      have hj2 : (j : Int) ≤ (j : Int) + 1 := by omega
      clear hz hO
      go_wp2
      go_round
      case rel => exact ⟨j, _, _, by omega, rfl, rfl, rfl, hS⟩
      case measure => simp [intOf]
    · obtain rfl : k = 0 := by omega
      have hz1 : z < 0 := by omega
      have HO : Hid (IsS O (p ++ s.data.toList.reverse)) := hO
      clear hz hO
      go_wp2
      go_ret
      exact ⟨O, rfl, HO.out, rfl⟩

set_option maxHeartbeats 1000000 in
theorem c_spec_StereotypeOf (v : Value) (xs : List ByteArray) (w : World) (ha : RdS w v xs) (hx : xs.length ≤ 9223372036854775807) (hs : ∀ s ∈ xs, s.size ≤ 9223372036854775807) :
    Calls Tryd.prog 27 #[v] w (FreshS w (plateF xs)) := by
  have ha0 := ha
  obtain ⟨a, cap, rfl, ha1⟩ := ha0
  clear ha1
  simp only [List.length_map] at ha ⊢
  have hs0 := OwnS_made w w.heap.size (Nat.le_refl _)
  have hc := c_spec_LinesValid (.slice a xs.length cap) xs (w.alloc (.cells #[] 9)) (ha.kept ((Below.refl _ _).alloc (Nat.le_refl _) _)) hx hs
  cases hv : linesB xs
  · have E : Hid (plateF xs = []) := by show _ = _; unfold plateF; rw [hv]; rfl
    rw [hv] at hc
    clear hv
    go_enter Tryd.func27, Tryd.ntmps27
    go_wp2_with (first | (go_at_call 29; refine hc.mono ?_; rintro e w1 ⟨rfl, hB1⟩))
    go_ret
    exact ⟨_, rfl, by rw [E.out]; exact ownsRow_kept_below hs0 hB1, balloc hB1⟩
  · obtain ⟨hx40, hs100⟩ := linesB_iff hv
    have hlng := lng_bd hs100
    have E : Hid (plateF xs = xs.map (mirS (lng xs))) := by show _ = _; unfold plateF; rw [hv]; rfl
    rw [hv] at hc
    clear hv hs
    go_enter Tryd.func27, Tryd.ntmps27
    go_wp2_with (first | (go_at_call 29; refine hc.mono ?_; rintro e w1 ⟨rfl, hB0⟩))
    have ho1 := ownsRow_kept_below hs0 hB0
    have hB1 := balloc hB0
    clear hB0 hs0 hc
    go_loop [4, 5] (fun m i => ∃ k : Nat, k ≤ xs.length ∧ i = .int .i64 k ∧ m = .int .i64 (lng (xs.take k))) (fun _ i => xs.length - (intOf i).toNat)
    case atStart => exact ⟨0, by omega, rfl, rfl⟩
    case round =>
      obtain ⟨k, hk, rfl, rfl⟩ := hrel
      by_cases hlt : k < xs.length
      · obtain ⟨b1, o1, rfl, hb1, e1⟩ := RdS_cell ha hB1 hlt
        have hsn := lng_succ xs k hlt
        have h1 : (xs.getD k noS).size ≤ 100 := hs100 _ (by simp [List.getD, hlt])
        have h2 : lng (xs.take k) ≤ 100 := lng_bd (fun s hs => hs100 s (List.mem_of_mem_take hs))
        obtain ⟨y, hy⟩ : ∃ y, xs.getD k noS = y := ⟨_, rfl⟩
        rw [hy] at e1 hsn h1
        have HS : Hid _ := hsn
        clear hsn hy ha hs100 ho1
        go_wp2
        go_round
        case rel => exact ⟨k + 1, by omega, by go_num, by rw [HS.out]; congr 1; omega⟩
        case measure => simp [intOf]; omega
      · have hk2 : lng (xs.take k) = lng xs := by rw [List.take_of_length_le (by omega)]
        rw [hk2]
        clear hk2
        obtain ⟨M, hM⟩ : ∃ M, lng xs = M := ⟨_, rfl⟩
        have hle : ∀ s ∈ xs, s.size ≤ M := fun s h => by rw [← hM]; exact lng_ge h
        rw [hM] at hlng E ⊢
        clear hM
        go_wp2
        go_loopw [3, 6] (fun v i wr => ∃ k : Nat, k ≤ xs.length ∧ i = .int .i64 k ∧ OwnS wr w.heap.size v ((xs.take k).map (mirS M)) ∧ Below w.heap.size w wr) (fun _ i _ => xs.length - (intOf i).toNat)
        case atStart => exact ⟨0, by omega, rfl, ho1, hB1⟩
        case round =>
          obtain ⟨k, hk, rfl, ho, hB⟩ := hrel
          by_cases hlt : k < xs.length
          · obtain ⟨b1, o1, rfl, hb1, e1⟩ := RdS_cell ha hB hlt
            have h1 : (xs.getD k noS).size ≤ M := hle _ (by simp [List.getD, hlt])
            have hsn := map_take_succS xs (mirS M) k hlt
            obtain ⟨y, hy⟩ : ∃ y, xs.getD k noS = y := ⟨_, rfl⟩
            rw [hy] at e1 h1 hsn
            have hBs := hB.size
            have hlen : ((xs.take k).map (mirS M)).length ≤ 60 := by simp; omega
            obtain ⟨L, hL⟩ : ∃ L, (xs.take k).map (mirS M) = L := ⟨_, rfl⟩
            rw [hL] at ho hlen hsn
            clear hL
            have HS : Hid ((xs.take (k + 1)).map (mirS M) = L ++ [mirS M y]) := hsn
            clear hy hsn ha ho1 hB1
            go_wp2_with fail
            refine (c_l6Mirror y _ _ (by omega) (by omega) (by omega)).mono ?_
            rw [Int.toNat_natCast]
            rintro e w' ⟨Z, rfl, hZ, rfl⟩
            have hZe : Z = mirS M y := hZ.inj (mirS_is M y)
            subst hZe
            clear hZ
            go_wp2_with (at_builtin; refine app1 23 9 Tryd.underlying23 infoStr rfl (by decide) rfl _ _ rfl w.heap.size _ _ _ rfl ho rfl rfl ?c1 ?c2 ?_)
            case c1 => omega
            case c2 => exact hBs
            intro v' wn ho3 hg1
            have HO : Hid (OwnS wn w.heap.size v' ((xs.take (k + 1)).map (mirS M)) ∧ Below w.heap.size w wn) :=
              ⟨by rw [HS.out]; exact OwnS_snoc rfl ho3, hB.grown hg1 hBs (fun j hj => (ho.lt j hj).1)⟩
            clear ho ho3 hg1 hB
            go_wp2
            go_roundw
            case rel => exact ⟨k + 1, by omega, by go_num, HO.out.1, HO.out.2⟩
            case measure => simp [intOf]; omega
          · have HO : Hid (OwnS wr w.heap.size u3 (plateF xs) ∧ Below w.heap.size w wr) := by
              rw [List.take_of_length_le (by omega)] at ho
              exact ⟨by rw [E.out]; exact ho, hB⟩
            clear ho hB ha ho1 hB1
            go_wp2
            go_ret
            exact ⟨_, rfl, HO.out.1, HO.out.2⟩
end Go.Proofs.YthpchphncelkpaaDoor
