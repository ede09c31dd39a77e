/- Contracts: two lists of lines are alike; a plate is read, in the reference. -/
import Derived.Test.YthpchphncelkpaaDoorStP
import Derived.Test.YthpchphncelkpaaDoorRest
namespace Go.Proofs.YthpchphncelkpaaDoor
set_option linter.unusedVariables false
open Go.RowKit

set_option maxHeartbeats 400000 in
theorem c_l6Lines (va vb : Value) (xs ys : List ByteArray) (w : World) (ha : RdS w va xs) (hb : RdS w vb ys) (hx : xs.length ≤ 9223372036854775807) (hy : ys.length ≤ 9223372036854775807) :
    Calls Tryd.prog 66 #[va, vb] w fun e w' => e = .returned (.bool (decide (xs = ys))) ∧ Below w.heap.size w w' := by
  by_cases hl : xs.length = ys.length
  · have ha0 := ha.op
    have hb0 := hb.op
    clear ha hb
    rcases ha0 with ⟨a, cap, rfl, rfl⟩ | ⟨b1, o1, c1, rfl, hb1, h1⟩
    · have hy0 : ys = [] := List.eq_nil_of_length_eq_zero (by simpa using hl.symm)
      subst hy0
      have : ∃ a c, vb = .slice a 0 c := by rcases hb0 with ⟨a, c, e, _⟩ | ⟨b, o, c, e, _⟩ <;> exact ⟨_, _, e⟩
      obtain ⟨a', c', rfl⟩ := this
      clear hb0 hl
      go_enter Tryd.func66, Tryd.ntmps66
      go_wp2
      refine wp_loop_rounds 1 ?_
      rw [rounds_succ]
      go_wp2
      go_ret
      exact ⟨by simp, Below.refl _ _⟩
    · rcases hb0 with ⟨a, cap, rfl, rfl⟩ | ⟨b2, o2, c2, rfl, hb2, h2⟩
      · have hx0 : xs = [] := List.eq_nil_of_length_eq_zero (by simpa using hl)
        subst hx0
        clear h1 hl
        go_enter Tryd.func66, Tryd.ntmps66
        go_wp2
        refine wp_loop_rounds 1 ?_
        rw [rounds_succ]
        go_wp2
        go_ret
        exact ⟨by simp, Below.refl _ _⟩
      · rw [← hl]
        have hl' : Hid (xs.length = ys.length) := hl
        clear hl
        go_enter Tryd.func66, Tryd.ntmps66
        go_wp2
        go_loopw [5] (fun i wr => ∃ k : Nat, k ≤ xs.length ∧ i = .int .i64 k ∧ xs.take k = ys.take k ∧ Below w.heap.size w wr) (fun i _ => xs.length - (intOf i).toNat)
        case atStart => exact ⟨0, by omega, rfl, by simp, Below.refl _ _⟩
        case round =>
          obtain ⟨k, hk, rfl, ht, hB⟩ := hrel
          have ht' : Hid (xs.take k = ys.take k) := ht
          clear ht
          by_cases hlt : k < xs.length
          · have e1 : wr.cell? ⟨b1, o1 + k, none⟩ = some (.string (xs.getD k noS)) := by rw [(bcell hB).1 _ _ hb1]; exact h1 k hlt
            have e2 : wr.cell? ⟨b2, o2 + k, none⟩ = some (.string (ys.getD k noS)) := by rw [(bcell hB).1 _ _ hb2]; exact h2 k (by rw [← hl'.out]; exact hlt)
            obtain ⟨x, hxk⟩ : ∃ x, xs.getD k noS = x := ⟨_, rfl⟩
            obtain ⟨y, hyk⟩ : ∃ y, ys.getD k noS = y := ⟨_, rfl⟩
            rw [hxk] at e1
            rw [hyk] at e2
            have hxk' : Hid (xs.getD k noS = x) := hxk
            have hyk' : Hid (ys.getD k noS = y) := hyk
            clear hxk hyk h1 h2
            have i1 : (0 : Int) ≤ (k : Int) := by omega
            have i2 : (k : Int) < (xs.length : Int) := by omega
            by_cases hxy : x = y
            · subst hxy
              go_wp2
              go_quiet (fail)
              go_wp2
              go_roundw
              case rel => exact ⟨k + 1, by omega, by go_num, take_eq_stepS hlt (by rw [← hl'.out]; exact hlt) ht'.out (by rw [hxk'.out, hyk'.out]), below_drewN hB _⟩
              case measure => simp [intOf]; omega
            · have hxy' := str_bne hxy
              have hne : Hid (¬ xs = ys) := fun e => hxy (by rw [← hxk'.out, ← hyk'.out, e])
              go_wp2
              go_quiet (fail)
              go_wp2
              go_ret
              exact ⟨ret_bool (decide_eq_false hne.out).symm, below_drewN hB _⟩
          · have hkl : k = xs.length := by omega
            have hee : Hid (xs = ys) := by
              have h := ht'.out
              rw [hkl, List.take_length] at h
              rw [hl'.out, List.take_length] at h
              exact h
            clear hkl
            go_wp2
            go_ret
            exact ⟨ret_bool (decide_eq_true hee.out).symm, hB⟩
  · obtain ⟨a1, c1, rfl, _⟩ := ha
    obtain ⟨a2, c2, rfl, _⟩ := hb
    simp only [List.length_map]
    have hne : Hid (¬ xs = ys) := fun e => hl (by rw [e])
    have hl' : ((xs.length : Int) != (ys.length : Int)) = true := by simp; omega
    go_enter Tryd.func66, Tryd.ntmps66
    go_wp2
    go_ret
    exact ⟨ret_bool (decide_eq_false hne.out).symm, Below.refl _ _⟩


theorem mirL_zero (l : List UInt8) : mirL l 0 = l.reverse := by unfold mirL; simp
theorem rsS_size (s : ByteArray) : (rsS s).size ≤ s.size := by
  rw [(rsS_is s).size]
  have := trimR_le s.data.toList.reverse 32
  rwa [List.length_reverse, size_data] at this
theorem trim_stop {s O : ByteArray} (h : IsS O (s.data.toList.reverse.take O.size)) (hl : O.size ≤ s.data.toList.reverse.length) (h1 : ∀ (j : Nat) b, O.size ≤ j → s.data.toList.reverse[j]? = some b → b = 32) (h2 : ∀ b, 0 < O.size → s.data.toList.reverse[O.size - 1]? = some b → b ≠ 32) : O = rsS s := by
  refine h.inj ((rsS_is s).cast ?_)
  exact Lib.trimRightB_take _ _ _ hl h1 h2
theorem take_at {O : ByteArray} {R : List UInt8} (h : IsS O (R.take O.size)) (h0 : 0 < O.size) (hb : O.size - 1 < O.size) : R[O.size - 1]? = some O[O.size - 1] := by
  have hl := h.size
  rw [List.length_take] at hl
  have hk : O.size - 1 < (R.take O.size).length := by rw [List.length_take]; omega
  rw [h.at_ hb hk, List.getElem_take, List.getElem?_eq_getElem]
theorem take_less {O : ByteArray} {R : List UInt8} (h : IsS O (R.take O.size)) : IsS (O.extract 0 (O.size - 1)) (R.take (O.extract 0 (O.size - 1)).size) := by
  have h2 := h.ext 0 (O.size - 1)
  refine h2.cast ?_
  rw [List.drop_zero, Nat.sub_zero, List.take_take, ByteArray.size_extract]
  congr 1

set_option maxHeartbeats 1600000 in
theorem c_spec_ReadStereotype (v : Value) (xs : List ByteArray) (w : World) (ha : RdS w v xs) (hx : xs.length ≤ 1048576) (hs : ∀ s ∈ xs, s.size ≤ 1048576) :
    Calls Tryd.prog 32 #[v] w (FreshSB w (rsF xs) (rsB xs)) := by
  have ha0 := ha
  obtain ⟨a, cap, rfl, ha1⟩ := ha0
  clear ha1
  simp only [List.length_map] at ha ⊢
  have hs0 := OwnS_made w w.heap.size (Nat.le_refl _)
  go_enter Tryd.func32, Tryd.ntmps32
  go_wp2
  go_loopw [4, 5, 6] (fun v i _ wr => ∃ k : Nat, k ≤ xs.length ∧ i = .int .i64 k ∧ OwnS wr w.heap.size v ((xs.take k).map rsS) ∧ Below w.heap.size w wr) (fun _ i _ _ => xs.length - (intOf i).toNat)
  case atStart => exact ⟨0, by omega, rfl, hs0, (Below.refl _ _).alloc (Nat.le_refl _) _⟩
  case round =>
    obtain ⟨k, hk, rfl, ho, hB⟩ := hrel
    by_cases hlt : k < xs.length
    · obtain ⟨b1, o1, rfl, hb1, e1⟩ := RdS_cell ha hB hlt
      have hz := hs (xs.getD k noS) (by simp [List.getD, hlt])
      have hsn := map_take_succS xs rsS k hlt
      obtain ⟨y, hy⟩ : ∃ y, xs.getD k noS = y := ⟨_, rfl⟩
      rw [hy] at e1 hz hsn
      have hBs := hB.size
      have hlen : ((xs.take k).map rsS).length ≤ 1048576 := by simp; omega
      obtain ⟨L, hL⟩ : ∃ L, (xs.take k).map rsS = L := ⟨_, rfl⟩
      rw [hL] at ho hlen hsn
      have HS : Hid ((xs.take (k + 1)).map rsS = L ++ [rsS y]) := hsn
      clear hL hy hsn ha hs hs0
      go_wp2_with fail
      refine (c_l6Mirror y 0 _ (by omega) (by omega) (by omega)).mono ?_
      rw [show (0 : Int).toNat = 0 from rfl, mirL_zero]
      rintro e w' ⟨Z, rfl, hZ, rfl⟩
      have hZs := hZ.size
      rw [List.length_reverse, size_data] at hZs
      have hZ1 : Z.size ≤ 1048576 := by omega
      have HZ : Hid (IsS Z (y.data.toList.reverse.take Z.size) ∧ Z.size ≤ y.data.toList.reverse.length ∧ ∀ (j : Nat) b, Z.size ≤ j → y.data.toList.reverse[j]? = some b → b = 32) := by
        refine ⟨hZ.cast (List.take_of_length_le (by rw [List.length_reverse, size_data]; omega)).symm, by rw [List.length_reverse, size_data]; omega, fun j b hj hb => ?_⟩
        rw [List.getElem?_eq_none (by rw [List.length_reverse, size_data]; omega)] at hb
        cases hb
      clear hZ hZs
      go_wp2
      go_loopw [6] (fun s wx => ∃ O : ByteArray, s = .string O ∧ O.size ≤ 1048576 ∧ Hid (IsS O (y.data.toList.reverse.take O.size) ∧ O.size ≤ y.data.toList.reverse.length ∧ ∀ (j : Nat) b, O.size ≤ j → y.data.toList.reverse[j]? = some b → b = 32) ∧ wx = wr) (fun s _ => Lib.strSize s)
      case atStart => exact ⟨Z, rfl, hZ1, HZ, rfl⟩
      case round =>
        obtain ⟨O, rfl, hO1, HO, rfl⟩ := hrel
        by_cases h0 : 0 < O.size
        · have hat := take_at HO.out.1 h0 (by omega)
          have i0 : (0 : Int) < (O.size : Int) := by omega
          have hw : IntKind.i64.wrap ((O.size : Int) - 1) = ((O.size - 1 : Nat) : Int) := by rw [IntWalk.i64_in _ (by omega)]; omega
          have i1 : (0 : Int) ≤ ((O.size - 1 : Nat) : Int) := by omega
          have i2 : ((O.size - 1 : Nat) : Int) < (O.size : Int) := by omega
          have i3 : ((O.size - 1 : Nat) : Int) ≤ (O.size : Int) := by omega
          have i4 : O.size - 1 < O.size := by omega
          by_cases he : O[O.size - 1] = 32
          · have HN : Hid (IsS (O.extract 0 (O.size - 1)) (y.data.toList.reverse.take (O.extract 0 (O.size - 1)).size) ∧ (O.extract 0 (O.size - 1)).size ≤ y.data.toList.reverse.length ∧ (∀ (j : Nat) b, (O.extract 0 (O.size - 1)).size ≤ j → y.data.toList.reverse[j]? = some b → b = 32) ∧ (O.extract 0 (O.size - 1)).size < O.size) := by
              have hes : (O.extract 0 (O.size - 1)).size = O.size - 1 := by rw [ByteArray.size_extract]; omega
              refine ⟨take_less HO.out.1, by have := HO.out.2.1; omega, fun j b hj hb => ?_, by omega⟩
              rw [hes] at hj
              by_cases hj2 : j = O.size - 1
              · subst hj2
                rw [hat] at hb
                rw [← Option.some.inj hb]; exact he
              · exact HO.out.2.2 j b (by omega) hb
            have et : ((O[O.size - 1].toNat : Int) == 32) = true := by rw [he]; rfl
            clear he hat HO
            go_wp2
            go_roundw
            case rel => exact ⟨_, rfl, by have := HN.out.2.2.2; omega, ⟨HN.out.1, HN.out.2.1, HN.out.2.2.1⟩, by simp⟩
            case measure => exact HN.out.2.2.2
          · have hZe : O = rsS y := trim_stop HO.out.1 HO.out.2.1 HO.out.2.2 (fun b _ hb e => he (by rw [hat] at hb; rw [Option.some.inj hb]; exact e))
            have et : ((O[O.size - 1].toNat : Int) == 32) = false := beq_eq_false_iff_ne.2 (fun q => he (UInt8.toNat_inj.1 (by show _ = 32; omega)))
            have HE : Hid (O = rsS y) := hZe
            clear he hat HO hZe
            go_wp2_with (at_builtin; refine app1 23 9 Tryd.underlying23 infoStr rfl (by decide) rfl _ _ rfl w.heap.size _ _ _ rfl ho rfl rfl ?c1 ?c2 ?_)
            case c1 => omega
            case c2 => exact hBs
            intro v' wn ho3 hg1
            have HO : Hid (OwnS wn w.heap.size v' ((xs.take (k + 1)).map rsS) ∧ Below w.heap.size w wn) :=
              ⟨by rw [HS.out, ← HE.out]; exact OwnS_snoc rfl ho3, hB.grown hg1 hBs (fun j hj => (ho.lt j hj).1)⟩
            clear ho ho3 hg1 hB
            go_wp2
            go_roundw
            case rel => exact ⟨k + 1, by omega, by go_num, HO.out.1, HO.out.2⟩
            case measure => simp [intOf]; omega
        · have hZe : O = rsS y := trim_stop HO.out.1 HO.out.2.1 HO.out.2.2 (fun b q => absurd q h0)
          have HE : Hid (O = rsS y) := hZe
          have i0 : decide ((0 : Int) < (O.size : Int)) = false := decide_eq_false (by omega)
          have i9 : ¬ (0 : Int) < (O.size : Int) := by omega
          clear HO hZe
          go_wp2_with (at_builtin; refine app1 23 9 Tryd.underlying23 infoStr rfl (by decide) rfl _ _ rfl w.heap.size _ _ _ rfl ho rfl rfl ?c1 ?c2 ?_)
          case c1 => omega
          all_goals (try exact hBs)
          intro v' wn ho3 hg1
          have HO : Hid (OwnS wn w.heap.size v' ((xs.take (k + 1)).map rsS) ∧ Below w.heap.size w wn) :=
            ⟨by rw [HS.out, ← HE.out]; exact OwnS_snoc rfl ho3, hB.grown hg1 hBs (fun j hj => (ho.lt j hj).1)⟩
          clear ho ho3 hg1 hB
          go_wp2
          go_roundw
          case rel => exact ⟨k + 1, by omega, by go_num, HO.out.1, HO.out.2⟩
          case measure => simp [intOf]; omega
    · have hkx : k = xs.length := by omega
      subst hkx
      rw [List.take_length] at ho
      have ho' : OwnS wr w.heap.size u4 (rsL xs) := ho
      have hsz : ∀ s ∈ rsL xs, s.size ≤ 1048576 := fun s h => by
        obtain ⟨y, hy, rfl⟩ := List.mem_map.1 h
        have := rsS_size y
        have := hs y hy
        omega
      have hrl := rsL_len xs
      have HF : Hid (rsF xs = if rsB xs = true then rsL xs else []) := rfl
      have HB : Hid (rsB xs = (linesB (rsL xs) && decide (plateF (rsL xs) = xs))) := rfl
      obtain ⟨R, hR⟩ : ∃ R, rsL xs = R := ⟨_, rfl⟩
      rw [hR] at ho' hsz hrl HF HB
      have hRd := owns_RdS ho'
      clear ho hR hs hs0
      have hc := c_spec_LinesValid u4 R wr hRd (by omega) (fun s h => by have := hsz s h; omega)
      cases hv : linesB R
      · have HX : Hid (rsB xs = false ∧ rsF xs = []) := by
          have h1 : rsB xs = false := by rw [HB.out, hv]; rfl
          refine ⟨h1, ?_⟩
          rw [HF.out, h1]; rfl
        rw [hv] at hc
        clear hv HB HF
        go_wp2_with (first | (go_at_call 29; refine hc.mono ?_; rintro e w2 ⟨rfl, hB2⟩))
        go_ret2
        refine ⟨_, by rw [HX.out.1]; rfl, by rw [HX.out.2]; exact OwnS_made _ _ (by have := hB.size; have := hB2.size; omega), (bthen hB hB2).alloc (bthen hB hB2).size _⟩
      · rw [hv] at hc
        have hpl := plateF_len R
        go_wp2_with fail
        refine hc.mono ?_
        rintro e w2 ⟨rfl, hB2⟩
        replace ho' := ownsRow_kept_below ho' hB2
        replace hB := bthen hB hB2
        have hc2 := c_spec_StereotypeOf u4 R w2 (hRd.kept hB2) (by omega) (fun s h => by have := hsz s h; omega)
        clear hc
        go_wp2_with fail
        refine hc2.mono ?_
        rintro e w3 ⟨v3, rfl, ho3, hB3⟩
        replace ho' := ownsRow_kept_below ho' hB3
        replace hB := bthen hB hB3
        have hc3 := c_l6Lines v3 _ (plateF R) xs w3 (owns_RdS ho3) (ha.kept hB) (by omega) (by omega)
        clear hc2
        go_wp2_with fail
        refine hc3.mono ?_
        rintro e w4 ⟨rfl, hB4⟩
        replace ho' := ownsRow_kept_below ho' hB4
        replace hB := bthen hB hB4
        by_cases hP : plateF R = xs
        · have HX : Hid (rsB xs = true ∧ rsF xs = R) := by
            have h1 : rsB xs = true := by rw [HB.out, hv, decide_eq_true hP]; rfl
            refine ⟨h1, ?_⟩
            rw [HF.out, if_pos h1]
          rw [decide_eq_true hP]
          have HO : Hid (OwnS w4 w.heap.size u4 R ∧ Below w.heap.size w w4) := ⟨ho', hB⟩
          clear hv HB HF hP ho' hB hc3 ho3 ha
          go_wp2
          go_ret2
          exact ⟨_, by rw [HX.out.1]; rfl, by rw [HX.out.2]; exact HO.out.1, HO.out.2⟩
        · have HX : Hid (rsB xs = false ∧ rsF xs = []) := by
            have h1 : rsB xs = false := by rw [HB.out, decide_eq_false hP, Bool.and_false]
            refine ⟨h1, ?_⟩
            rw [HF.out, h1]; rfl
          rw [decide_eq_false hP]
          clear hv HB HF hP ho' hc3 ho3 ha
          go_wp2
          go_ret2
          exact ⟨_, by rw [HX.out.1]; rfl, by rw [HX.out.2]; exact OwnS_made _ _ hB.size, hB.alloc hB.size _⟩
end Go.Proofs.YthpchphncelkpaaDoor
