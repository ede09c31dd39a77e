/- Contracts: a restored column, in the reference. -/
import Derived.Test.YthpchphncelkpaaDoorRestP3
import Derived.Test.YthpchphncelkpaaDoorSapp
import Derived.WalkSpells
namespace Go.Proofs.YthpchphncelkpaaDoor
set_option linter.unusedVariables false
open Go.RowKit

theorem slice_toT (y : ByteArray) (n : Nat) (h : n ≤ y.size) : ∃ T, (∀ W, (Instr.slice 9 (.string y) none (some (.int .i64 (n : Int))) none).run Tryd.prog W = .ok (.string T) W) ∧ T.size ≤ y.size ∧ IsS T (y.data.toList.take n) := by
  refine ⟨y.extract 0 n, fun W => ?_, by rw [ByteArray.size_extract]; omega, ?_⟩
  · rw [run_slice_string_to_if W 9 y .i64 n Tryd.underlying9, if_pos (by omega), Int.toNat_natCast]
  · exact ((IsS.self y).ext 0 n).cast (by rw [List.drop_zero, Nat.sub_zero])
/-- the sum of a beginning and an end -/
theorem fill_parts {a s : ByteArray} {n : Nat} (hn : n ≤ a.size) (hm : n ≤ s.size) (hs : a.size + s.size ≤ 9223372036854775807) (h : fillN a.data.toList s.data.toList = n) :
    ∃ U T, (∀ W, (Instr.slice 9 (.string a) none (some (.int .i64 (n : Int))) none).run Tryd.prog W = .ok (.string U) W) ∧
      (∀ W, (Instr.slice 9 (.string s) (some (.int .i64 (n : Int))) none none).run Tryd.prog W = .ok (.string T) W) ∧ (9223372036854775807 < U.size + T.size) = False ∧ IsS (U ++ T) (fillL a.data.toList s.data.toList) := by
  obtain ⟨U, g3, hU, hUi⟩ := slice_toT a n hn
  obtain ⟨T, g4, hT, hTi⟩ := slice_fromT s n hm
  refine ⟨U, T, g3, g4, eq_false (by omega), (hUi.app hTi).cast ?_⟩
  unfold fillL
  rw [h]

set_option maxHeartbeats 400000 in
theorem c_l6Fill (a s : ByteArray) (w : World) (ha : a.size ≤ 1099511627776) (hs : s.size ≤ 1099511627776) :
    Calls Tryd.prog 58 #[.string a, .string s] w (StrB (fillL a.data.toList s.data.toList) w) := by
  have HL : Hid (∀ n, n ≤ a.size → n ≤ s.size → fillN a.data.toList s.data.toList = n → ∃ U T, (∀ W, (Instr.slice 9 (.string a) none (some (.int .i64 (n : Int))) none).run Tryd.prog W = .ok (.string U) W) ∧
      (∀ W, (Instr.slice 9 (.string s) (some (.int .i64 (n : Int))) none none).run Tryd.prog W = .ok (.string T) W) ∧ (9223372036854775807 < U.size + T.size) = False ∧ IsS (U ++ T) (fillL a.data.toList s.data.toList)) := fun n h1 h2 h => fill_parts h1 h2 (by omega) h
  generalize fillL a.data.toList s.data.toList = F at HL ⊢
  have hle := fillN_le a.data.toList s.data.toList
  rw [size_data, size_data] at hle
  obtain ⟨hl1, hl2⟩ := hle
  have HG : Hid (∀ n, n ≤ fillN a.data.toList s.data.toList → (h : n < a.data.toList.length) → (h2 : n < s.data.toList.length) → s.data.toList[n] = 32 → n + 1 ≤ fillN a.data.toList s.data.toList) := fun n h h1 h2 h3 => fillN_go h h1 h2 h3
  have HS : Hid (∀ n, n ≤ fillN a.data.toList s.data.toList → (h2 : n < s.data.toList.length) → s.data.toList[n] ≠ 32 → fillN a.data.toList s.data.toList = n) := fun n h h2 h3 => fillN_stop h h2 h3
  have HE : Hid (∀ n, n ≤ fillN a.data.toList s.data.toList → (a.data.toList.length ≤ n ∨ s.data.toList.length ≤ n) → fillN a.data.toList s.data.toList = n) := fun n h h2 => fillN_end h h2
  generalize fillN a.data.toList s.data.toList = N at *
  go_enter Tryd.func58, Tryd.ntmps58
  go_wp2
  go_loopw [5] (fun i wr => ∃ n : Nat, n ≤ N ∧ i = .int .i64 n ∧ Below w.heap.size w wr) (fun i _ => s.size - (intOf i).toNat)
  case atStart => exact ⟨0, by omega, rfl, Below.refl _ _⟩
  case round =>
    obtain ⟨n, hn, rfl, hB⟩ := hrel
    have hsum : a.size + s.size ≤ 9223372036854775807 := by omega
    by_cases h1 : n < s.size
    · by_cases h2 : n < a.size
      · have l1 : n < a.data.toList.length := by rw [size_data]; exact h2
        have l2 : n < s.data.toList.length := by rw [size_data]; exact h1
        have es : s.data.toList[n] = s[n] := rfl
        have i1 : (0 : Int) ≤ (n : Int) := by omega
        have i2 : (n : Int) < (s.size : Int) := by omega
        have i3 : (n : Int) < (a.size : Int) := by omega
        by_cases he : s[n] = 32
        · have hn1 := HG.out n hn l1 l2 (by rw [es]; exact he)
          have et : ((s[n].toNat : Int) == 32) = true := by rw [he]; rfl
          clear he es
          go_wp2
          go_roundw
          case rel => exact ⟨n + 1, by omega, by go_num, hB⟩
          case measure => simp [intOf]; omega
        · have hn1 := HS.out n hn l2 (by rw [es]; exact he)
          have et : ((s[n].toNat : Int) == 32) = false := beq_eq_false_iff_ne.2 (fun q => he (UInt8.toNat_inj.1 (by show _ = 32; omega)))
          clear he es
          obtain ⟨U, T, g3, g4, g5, hI⟩ := HL.out n (by omega) (by omega) hn1
          have HI' : Hid _ := hI
          clear hI
          go_wp2
          go_quiet (fail)
          go_wp2
          go_ret
          exact ⟨_, rfl, HI'.out, below_drewN hB _⟩
      · have hn1 := HE.out n hn (.inl (by rw [size_data]; omega))
        obtain ⟨U, T, g3, g4, g5, hI⟩ := HL.out n (by omega) (by omega) hn1
        have HI' : Hid _ := hI
        clear hI
        have i2 : (n : Int) < (s.size : Int) := by omega
        have i3 : decide ((n : Int) < (a.size : Int)) = false := decide_eq_false (by omega)
        go_wp2
        go_quiet (fail)
        go_wp2
        go_ret
        exact ⟨_, rfl, HI'.out, below_drewN hB _⟩
    · have hn1 := HE.out n hn (.inr (by rw [size_data]; omega))
      obtain ⟨U, T, g3, g4, g5, hI⟩ := HL.out n (by omega) (by omega) hn1
      have HI' : Hid _ := hI
      clear hI
      have i2 : decide ((n : Int) < (s.size : Int)) = false := decide_eq_false (by omega)
      go_wp2
      go_quiet (fail)
      go_wp2
      go_ret
      exact ⟨_, rfl, HI'.out, below_drewN hB _⟩

set_option maxHeartbeats 1600000 in
theorem c_spec_RestoreColumn (v : Value) (xs : List ByteArray) (w : World) (ha : RdS w v xs) (hx : xs.length ≤ 1048576) (hs : ∀ s ∈ xs, s.size ≤ 1048576) :
    Calls Tryd.prog 19 #[v] w (FreshS w (resF xs)) := by
  have ha0 := ha
  obtain ⟨a, cap, rfl, ha1⟩ := ha0
  clear ha1
  simp only [List.length_map] at ha ⊢
  have hs0 := OwnS_made w w.heap.size (Nat.le_refl _)
  go_enter Tryd.func19, Tryd.ntmps19
  go_wp2
  go_loopw [3, 4, 5] (fun v u i wr => ∃ (k : Nat) (O : ByteArray), k ≤ xs.length ∧ i = .int .i64 k ∧ u = .string O ∧ IsS O (aboveL xs k) ∧ OwnS wr w.heap.size v ((List.range k).map (reE xs)) ∧ Below w.heap.size w wr) (fun _ _ i _ => xs.length - (intOf i).toNat)
  case atStart => exact ⟨0, noS, by omega, rfl, rfl, rfl, hs0, (Below.refl _ _).alloc (Nat.le_refl _) _⟩
  case round =>
    obtain ⟨k, O, hk, rfl, rfl, hO, ho, hB⟩ := hrel
    by_cases hlt : k < xs.length
    · obtain ⟨b1, o1, rfl, hb1, e1⟩ := RdS_cell ha hB hlt
      have hz := hs (xs.getD k noS) (by simp [List.getD, hlt])
      have hOz : O.size ≤ 1048576 := by rw [hO.size]; exact aboveL_le hs k hk
      have hE := reE_is xs k
      have hE2 : IsS (reE xs k) (aboveL xs (k + 1)) := hE
      obtain ⟨y, hy⟩ : ∃ y, xs.getD k noS = y := ⟨_, rfl⟩
      rw [hy] at e1 hz hE
      rw [show aboveL xs k = O.data.toList from hO.symm] at hE
      have hBs := hB.size
      have hlen : ((List.range k).map (reE xs)).length ≤ 1048576 := by simp; omega
      have hsn := range_map_succ (reE xs) k
      obtain ⟨L, hL⟩ : ∃ L, (List.range k).map (reE xs) = L := ⟨_, rfl⟩
      rw [hL] at ho hlen hsn
      clear hL
      have HS : Hid ((List.range (k + 1)).map (reE xs) = L ++ [reE xs k]) := hsn
      clear hsn hs0 hO hy
      have HA : Hid (RdS w (.slice (some ⟨b1, o1, none⟩) xs.length cap) xs ∧ ∀ s ∈ xs, s.size ≤ 1048576) := ⟨ha, hs⟩
      clear ha hs
      go_wp2_with fail
      refine (c_l6Fill O y _ (by omega) (by omega)).mono ?_
      rintro e w1 ⟨Z, rfl, hZ, hB1⟩
      have hZe : Z = reE xs k := hZ.inj hE
      subst hZe
      replace ho := ownsRow_kept_below ho hB1
      replace hB := bthen hB hB1
      have hBs1 := hB.size
      clear hZ hE hB1 hBs e1
      go_wp2_with (at_builtin; refine app1 23 9 Tryd.underlying23 infoStr rfl (by decide) rfl _ _ rfl w.heap.size _ _ _ rfl ho rfl rfl ?c1 ?c2 ?_)
      case c1 => omega
      case c2 => exact hBs1
      intro v' wn ho3 hg1
      have HO : Hid (OwnS wn w.heap.size v' ((List.range (k + 1)).map (reE xs)) ∧ Below w.heap.size w wn) :=
        ⟨by rw [HS.out]; exact OwnS_snoc rfl ho3, hB.grown hg1 hBs1 (fun j hj => (ho.lt j hj).1)⟩
      have HE2 : Hid _ := hE2
      clear ho ho3 hg1 hB hE2
      go_wp2
      go_roundw
      case rel => exact ⟨k + 1, _, by omega, by go_num, rfl, HE2.out, HO.out.1, HO.out.2⟩
      case measure => simp [intOf]; omega
    · have hkx : k = xs.length := by omega
      subst hkx
      rw [← restL_re] at ho
      have hsz := restL_sizes hs
      have hrl := restL_len [] xs
      have hRX : xs = [] → resF xs = restL [] xs := fun h => by subst h; rfl
      have hRN : shorF (restL [] xs) ≠ xs → resF xs = [] := resF_ne
      have hRE : shorF (restL [] xs) = xs → resF xs = restL [] xs := resF_eq
      obtain ⟨R, hR⟩ : ∃ R, restL [] xs = R := ⟨_, rfl⟩
      rw [hR] at ho hsz hrl hRX hRN hRE
      obtain ⟨S, hS⟩ : ∃ S, shorF R = S := ⟨_, rfl⟩
      rw [hS] at hRN hRE
      obtain ⟨X, hX⟩ : ∃ X, resF xs = X := ⟨_, rfl⟩
      rw [hX] at hRX hRN hRE
      have HX : Hid (resF xs = X) := hX
      have HR : Hid ((xs = [] → X = R) ∧ (S ≠ xs → X = []) ∧ (S = xs → X = R)) := ⟨hRX, hRN, hRE⟩
      have hSl : S.length ≤ 60 := by rw [← hS]; exact shorF_len _
      clear hRX hRN hRE hX hR hs0 hO
      have hRd := owns_RdS ho
      have HC : Hid _ := c_spec_ShortenColumn u3 R _ hRd (by omega) (fun s h => by have := hsz s h; omega)
      rw [hS] at HC
      clear hS hsz hRd hs
      go_wp2_with fail
      refine Calls.mono HC.out ?_
      rintro e w2 ⟨v2, rfl, ho2, hB2⟩
      replace ho := ownsRow_kept_below ho hB2
      replace hB := bthen hB hB2
      have hr2 := owns_RdS ho2
      obtain ⟨a2, cap2, rfl, hq⟩ := (show RdS _ _ _ from hr2)
      clear hq hB2 HC
      simp only [List.length_map] at hr2 ho2 ⊢
      clear ho2
      go_wp2
      go_loopw [7] (fun i wr => ∃ k : Nat, k ≤ xs.length ∧ i = .int .i64 k ∧ S.take k = xs.take k ∧ (0 < k → S.length = xs.length) ∧ Below w2.heap.size w2 wr) (fun i _ => xs.length - (intOf i).toNat)
      case atStart => exact ⟨0, by omega, rfl, by simp, by omega, Below.refl _ _⟩
      case round =>
        obtain ⟨k, hk, rfl, ht, hl, hB3⟩ := hrel
        have HT : Hid (S.take k = xs.take k ∧ (0 < k → S.length = xs.length)) := ⟨ht, hl⟩
        clear ht hl
        by_cases hlt : k < xs.length
        · have i1 : (0 : Int) ≤ (k : Int) := by omega
          have i2 : (k : Int) < (xs.length : Int) := by omega
          by_cases hll : S.length = xs.length
          · obtain ⟨b1, o1, rfl, hb1, e1⟩ := RdS_cell ha (bthen hB hB3) hlt
            obtain ⟨b2, o2, rfl, hb2, e2⟩ := RdS_cell hr2 hB3 (show k < S.length by omega)
            have h9 : ((S.length : Int) == (xs.length : Int)) = true := beq_iff_eq.2 (by omega)
            have h9' : ((S.length : Int) != (xs.length : Int)) = false := by simp; omega
            have i4 : (k : Int) < (S.length : Int) := by omega
            have HTS : Hid (xs.getD k noS = S.getD k noS → S.take (k + 1) = xs.take (k + 1)) := fun q => take_eq_stepS (by omega) hlt HT.out.1 q.symm
            have HNE : Hid (xs.getD k noS ≠ S.getD k noS → S ≠ xs) := fun q e => q (by rw [e])
            obtain ⟨x, hxk⟩ : ∃ x, xs.getD k noS = x := ⟨_, rfl⟩
            obtain ⟨y, hyk⟩ : ∃ y, S.getD k noS = y := ⟨_, rfl⟩
            rw [hxk] at e1 HTS HNE
            rw [hyk] at e2 HTS HNE
            have HLL : Hid _ := hll
            clear hxk hyk ha hr2 hll hSl hrl
            by_cases hxy : y = x
            · subst hxy
              go_wp2
              go_quiet (fail)
              go_wp2
              go_roundw
              case rel => exact ⟨k + 1, by omega, by go_num, HTS.out (by simp), fun _ => HLL.out, below_drewN hB3 _⟩
              case measure => simp [intOf]; omega
            · have hxy' := str_bne hxy
              have HNX : Hid (X = []) := HR.out.2.1 (HNE.out (fun q => hxy q.symm))
              go_wp2
              go_quiet (fail)
              go_wp2
              go_ret
              refine ⟨_, rfl, by rw [HX.out, HNX.out]; exact OwnS_made _ _ (by have := hB.size; have := hB3.size; simp [World.drewN]; omega), (bthen hB (below_drewN hB3 _)).alloc (bthen hB (below_drewN hB3 _)).size _⟩
          · have HNX : Hid (X = []) := HR.out.2.1 (fun q => hll (by rw [q]))
            have h9 : ((S.length : Int) == (xs.length : Int)) = false := beq_eq_false_iff_ne.2 (by omega)
            have h9' : ((S.length : Int) != (xs.length : Int)) = true := by simp; omega
            clear hll
            go_wp2
            go_quiet (fail)
            go_wp2
            go_ret
            refine ⟨_, rfl, by rw [HX.out, HNX.out]; exact OwnS_made _ _ (by have := hB.size; have := hB3.size; simp [World.drewN]; omega), (bthen hB (below_drewN hB3 _)).alloc (bthen hB (below_drewN hB3 _)).size _⟩
        · have hee : X = R := by
            by_cases h0 : 0 < xs.length
            · exact HR.out.2.2 (take_all_eq (k := k) (by omega) (HT.out.2 (by omega)).symm HT.out.1)
            · exact HR.out.1 (List.eq_nil_of_length_eq_zero (by omega))
          have HO : Hid (OwnS wr w.heap.size u3 X ∧ Below w.heap.size w wr) := ⟨by rw [hee]; exact ownsRow_kept_below ho hB3, bthen hB hB3⟩
          clear hee ho hB
          go_wp2
          go_ret
          exact ⟨_, rfl, by rw [HX.out]; exact HO.out.1, HO.out.2⟩
end Go.Proofs.YthpchphncelkpaaDoor
