/- Lemmas and contracts for PlanWheels (Eng11 Eng12): plain words on memory, contracts of the functions that the law reaches. No condition but what each states. -/
import Derived.Test.YthjehjdcpfefcaaMPlanWheelsEng3
import Derived.Test.YthjehjdcpfefcaaPlan6
namespace Go.Proofs.Ythjehjdcpfefcaa
set_option linter.unusedVariables false
open Go.RowKit

/-- two engines in boxes, and their columns, in any world above -/
theorem two_cells {w w2 : World} {b1 o1 c1 b2 o2 c2 k n : Nat} {us vs : List Int} (hu : RdS w (.slice (some ⟨b1, o1, none⟩) n c1) (cols k us)) (hv : RdS w (.slice (some ⟨b2, o2, none⟩) n c2) (cols k vs)) (hB : Below w.heap.size w w2) (hn : us.length = n) (hn2 : vs.length = n)
    (k0 : w2.cell? ⟨w.heap.size, 0, none⟩ = some (.slice (some ⟨b1, o1, none⟩) n c1)) (k1 : w2.cell? ⟨w.heap.size + 1, 0, none⟩ = some (.slice (some ⟨b2, o2, none⟩) n c2)) (hz : w.heap.size + 2 ≤ w2.heap.size) (wr : World) (h : Below w2.heap.size w2 wr) :
    wr.cell? ⟨w.heap.size, 0, none⟩ = some (.slice (some ⟨b1, o1, none⟩) n c1) ∧ wr.cell? ⟨w.heap.size + 1, 0, none⟩ = some (.slice (some ⟨b2, o2, none⟩) n c2) ∧
    (∀ j, j < n → wr.cell? ⟨b1, o1 + j, none⟩ = some (.string (colS k (us.getD j 0)))) ∧ (∀ j, j < n → wr.cell? ⟨b2, o2 + j, none⟩ = some (.string (colS k (vs.getD j 0)))) := by
  obtain ⟨bc, _⟩ := bcell h
  refine ⟨(bc _ _ (by omega)).trans k0, (bc _ _ (by omega)).trans k1, fun j hj => ?_, fun j hj => ?_⟩
  · subst hn
    obtain ⟨b, o, e, hb, hc⟩ := col_cells hu (bthen hB h) hj
    simp only [Option.some.injEq, Addr.mk.injEq] at e
    obtain ⟨rfl, rfl, _⟩ := e
    exact hc
  · subst hn2
    obtain ⟨b, o, e, hb, hc⟩ := col_cells hv (bthen hB h) hj
    simp only [Option.some.injEq, Addr.mk.injEq] at e
    obtain ⟨rfl, rfl, _⟩ := e
    exact hc
theorem RdS_form1 {w : World} {v : Value} {k : Nat} {vs : List Int} (h : RdS w v (cols k vs)) (h1 : 1 ≤ vs.length) : ∃ b o cap, v = .slice (some ⟨b, o, none⟩) vs.length cap := by
  rcases h.op with ⟨a, cap, e, e2⟩ | ⟨b, off, cap, e, _, _⟩
  · have := congrArg List.length e2
    rw [cols_len] at this
    simp at this
    rw [this] at h1
    simp at h1
  · rw [cols_len] at e
    exact ⟨b, off, cap, e⟩
theorem dif_step {X Y : ByteArray} {t : Nat} (h1 : t < X.size) (h2 : t < Y.size) : dif X.data.toList Y.data.toList (t + 1) = dif X.data.toList Y.data.toList t + if X[t] = Y[t] then 0 else 1 := by
  have e1 : X.data.toList.getD t 0 = X[t] := by
    have : t < X.data.toList.length := by rw [size_data]; exact h1
    rw [List.getD_eq_getElem?_getD, List.getElem?_eq_getElem this]; rfl
  have e2 : Y.data.toList.getD t 0 = Y[t] := by
    have : t < Y.data.toList.length := by rw [size_data]; exact h2
    rw [List.getD_eq_getElem?_getD, List.getElem?_eq_getElem this]; rfl
  rw [dif, e1, e2]
set_option maxRecDepth 20000 in
set_option maxHeartbeats 1600000 in
theorem c_ChangeWheels (k : Nat) (u v : Value) (us vs : List Int) (w : World) (hu : RdS w u (cols k us)) (hv : RdS w v (cols k vs)) (h1 : 1 ≤ k) (h2 : k ≤ 12) (hn : vs.length = us.length) (hn1 : 1 ≤ us.length) (hn7 : us.length ≤ 7) :
    Calls Try.prog 30 #[.agg #[u], .agg #[v]] w fun e w' => e = .returned (.int .i64 ((difE (cols k us) (cols k vs) us.length : Int))) ∧ Below w.heap.size w w' := by
  have hB0 : Below w.heap.size w ((w.alloc (.cells #[u] 50)).alloc (.cells #[v] 50)) := ((Below.refl _ _).alloc (Nat.le_refl _) _).alloc (by simp) _
  have HE1 : Hid (∀ W, Below w.heap.size w W → Calls Try.prog 58 #[.agg #[u]] W fun e w' => e = .returned (.bool true) ∧ Below W.heap.size W w') := fun W h => c_impl_EngineValid k u us W (hu.kept h) h1 h2 hn1 hn7
  have HE2 : Hid (∀ W, Below w.heap.size w W → Calls Try.prog 58 #[.agg #[v]] W fun e w' => e = .returned (.bool true) ∧ Below W.heap.size W w') := fun W h => c_impl_EngineValid k v vs W (hv.kept h) h1 h2 (by omega) (by omega)
  obtain ⟨b1, o1, c1, rfl⟩ := RdS_form1 hu hn1
  obtain ⟨b2, o2, c2, rfl⟩ := RdS_form1 hv (by omega)
  rw [hn] at hv HE2 hB0 ⊢
  have hdl : ∀ j, difE (cols k us) (cols k vs) j ≤ j * 12 := fun j => difE_le (fun s hs => by
    obtain ⟨x, _, rfl⟩ := List.mem_map.1 hs
    rw [colS_size]; exact h2) j
  have HDL := hidd hdl
  have HD : Hid (∀ j, j < us.length → difE (cols k us) (cols k vs) (j + 1) = difE (cols k us) (cols k vs) j + dif (colS k (us.getD j 0)).data.toList (colS k (vs.getD j 0)).data.toList k) := fun j hj => by
    rw [difE, cols_getD k us j hj, cols_getD k vs j (by omega), colS_size]
  have HD0 : Hid (difE (cols k us) (cols k vs) 0 = 0) := rfl
  obtain ⟨D, hD⟩ : ∃ D, difE (cols k us) (cols k vs) = D := ⟨_, rfl⟩
  rw [hD] at HD HD0 HDL ⊢
  clear hD hdl
  go_enter Try.func30, Try.ntmps30
  go_wp2_with fail
  refine (HE1.out _ hB0).mono ?_
  rintro e w1 ⟨rfl, hB1⟩
  have k0 : w1.cell? ⟨w.heap.size, 0, none⟩ = some (.slice (some ⟨b1, o1, none⟩) us.length c1) := by rw [(bcell hB1).1 _ _ (by simp; omega)]; simp [go_sem]
  have k1 : w1.cell? ⟨w.heap.size + 1, 0, none⟩ = some (.slice (some ⟨b2, o2, none⟩) us.length c2) := by rw [(bcell hB1).1 _ _ (by simp)]; simp [go_sem]
  have hz1 : w.heap.size + 2 ≤ w1.heap.size := by have := hB1.size; simp at this; omega
  have hA1 := bthen hB0 hB1
  clear hB0 hB1
  go_wp2_with fail
  refine (HE2.out _ hA1).mono ?_
  rintro e w2 ⟨rfl, hB2⟩
  have hz2 : w.heap.size + 2 ≤ w2.heap.size := Nat.le_trans hz1 hB2.size
  have HK := hidd (two_cells hu hv (bthen hA1 hB2) rfl hn (((bcell hB2).1 _ _ (by omega)).trans k0) (((bcell hB2).1 _ _ (by omega)).trans k1) hz2)
  have HA := hidd (bthen hA1 hB2)
  clear k0 k1 hA1 hB2 hu hv hz1 HE1 HE2
  obtain ⟨p0, p1, p2, p3⟩ := HK.out _ (Below.refl _ w2)
  have q2 := p2 0 (by omega)
  have q3 := p3 0 (by omega)
  rw [Nat.add_zero] at q2 q3
  have s2 : (colS k (us.getD 0 0)).size = k := colS_size _ _
  have s3 : (colS k (vs.getD 0 0)).size = k := colS_size _ _
  generalize colS k (us.getD 0 0) = X0 at *
  generalize colS k (vs.getD 0 0) = Y0 at *
  have g0 : (0 : Int) < us.length := by omega
  clear p2 p3
  go_wp2
  go_quiet (fail)
  go_wp2
  clear p0 p1 q2 q3 s2 s3
  generalize hq : w2.drewN _ = w3 at *
  have hB3 : Below w2.heap.size w2 w3 := by rw [← hq]; exact below_drewN (Below.refl _ _) _
  obtain ⟨p0, p1, _, _⟩ := HK.out _ hB3
  go_loopw [5, 40] (fun q i wr => ∃ j : Nat, j ≤ us.length ∧ i = .int .i64 j ∧ q = .int .i64 (D j) ∧ Below w2.heap.size w2 wr) (fun _ i _ => us.length - (intOf i).toNat)
  case atStart => exact ⟨0, by omega, rfl, by rw [HD0.out]; rfl, hB3⟩
  case round =>
    obtain ⟨j, hj, rfl, rfl, hB⟩ := hrel
    clear p0 p1 hB3
    by_cases hlt : j < us.length
    · obtain ⟨p0, p1, p2, _⟩ := HK.out _ hB
      have e2 := p2 j hlt
      have i0 : (0 : Int) ≤ (j : Int) := by omega
      have i1 : (j : Int) < (us.length : Int) := by omega
      have HDj := hidd (HD.out j hlt)
      have hDl := HDL.out j
      have HKJ : Hid (∀ wi, Below w2.heap.size w2 wi → wi.cell? ⟨w.heap.size + 1, 0, none⟩ = some (.slice (some ⟨b2, o2, none⟩) us.length c2) ∧ wi.cell? ⟨b2, o2 + j, none⟩ = some (.string (colS k (vs.getD j 0)))) := fun wi h => by
        obtain ⟨_, a, _, b⟩ := HK.out wi h
        exact ⟨a, b j hlt⟩
      have s2 : (colS k (us.getD j 0)).size = k := colS_size _ _
      have s3 : (colS k (vs.getD j 0)).size = k := colS_size _ _
      generalize colS k (us.getD j 0) = X at *
      generalize colS k (vs.getD j 0) = Y at *
      have HBw := hidd hB
      clear p2
      go_wp2
      obtain ⟨W, hW⟩ : ∃ W : World, W = wr := ⟨_, rfl⟩
      subst hW
      go_loopw [5, 47] (fun q i wi => ∃ t : Nat, t ≤ k ∧ i = .int .i64 t ∧ q = .int .i64 ((D j : Int) + (dif X.data.toList Y.data.toList t : Int)) ∧ Below w2.heap.size w2 wi) (fun _ i _ => k - (intOf i).toNat)
      case atStart => exact ⟨0, by omega, rfl, by simp [dif], HBw.out⟩
      case round =>
        obtain ⟨t, ht, rfl, rfl, hBi⟩ := hrel
        clear e2 p0 p1 hB
        by_cases htl : t < k
        · obtain ⟨a1, a2⟩ := HKJ.out _ hBi
          have t1 : t < X.size := by omega
          have t2 : t < Y.size := by omega
          have HS := hidd (dif_step t1 t2)
          have hdl := dif_le X.data.toList Y.data.toList t
          have HBn : Hid (∀ q, Below w2.heap.size w2 (wr.drewN q)) := fun q => below_drewN hBi q
          obtain ⟨x, hx⟩ : ∃ x, X[t] = x := ⟨_, rfl⟩
          obtain ⟨y, hy⟩ : ∃ y, Y[t] = y := ⟨_, rfl⟩
          rw [hx, hy] at HS
          have hx' := hx
          by_cases hxy : x = y
          · subst hxy
            have HE : Hid (dif X.data.toList Y.data.toList (t + 1) = dif X.data.toList Y.data.toList t) := by show _ = _; rw [HS.out, if_pos rfl, Nat.add_zero]
            go_wp2
            go_quiet (fail)
            go_wp2
            go_roundw
            case rel => exact ⟨t + 1, by omega, by go_num, by rw [HE.out], HBn.out _⟩
            case measure => simp [intOf]; omega
          · have HE : Hid (dif X.data.toList Y.data.toList (t + 1) = dif X.data.toList Y.data.toList t + 1) := by show _ = _; rw [HS.out, if_neg hxy]
            have hne : ¬ ((x.toNat : Int) = (y.toNat : Int)) := fun e => hxy (UInt8.toNat_inj.1 (by omega))
            go_wp2
            go_quiet (fail)
            go_wp2
            go_roundw
            case rel => exact ⟨t + 1, by omega, by go_num, by rw [HE.out]; first | rfl | (push_cast; rfl) | (push_cast; congr 1; omega), HBn.out _⟩
            case measure => simp [intOf]; omega
        · obtain rfl : t = k := by omega
          have HE : Hid ((D (j + 1) : Int) = (D j : Int) + (dif X.data.toList Y.data.toList t : Int)) := by show _ = _; rw [HDj.out]; push_cast; rfl
          go_wp2
          go_roundw
          case rel => exact ⟨j + 1, by omega, by go_num, by rw [HE.out], hBi⟩
          case measure => simp [intOf]; omega
    · obtain rfl : j = us.length := by omega
      have HF : Hid (Below w.heap.size w wr) := bthen HA.out hB
      go_wp2
      go_ret
      exact ⟨rfl, HF.out⟩
end Go.Proofs.Ythjehjdcpfefcaa

namespace Go.Proofs.Ythjehjdcpfefcaa
set_option linter.unusedVariables false
open Go.RowKit

set_option maxRecDepth 20000 in
set_option maxHeartbeats 1600000 in
theorem c_sChangeWheels (k : Nat) (u v : Value) (us vs : List Int) (w : World) (hu : RdS w u (cols k us)) (hv : RdS w v (cols k vs)) (h1 : 1 ≤ k) (h2 : k ≤ 12) (hn : vs.length = us.length) (hn1 : 1 ≤ us.length) (hn7 : us.length ≤ 7) :
    Calls Try.prog 24 #[.agg #[u], .agg #[v]] w fun e w' => e = .returned (.int .i64 ((difE (cols k us) (cols k vs) us.length : Int))) ∧ Below w.heap.size w w' := by
  have hB0 : Below w.heap.size w ((w.alloc (.cells #[u] 50)).alloc (.cells #[v] 50)) := ((Below.refl _ _).alloc (Nat.le_refl _) _).alloc (by simp) _
  have HE1 : Hid (∀ W, Below w.heap.size w W → Calls Try.prog 52 #[.agg #[u]] W fun e w' => e = .returned (.bool true) ∧ Below W.heap.size W w') := fun W h => c_spec_EngineValid k u us W (hu.kept h) h1 h2 hn1 hn7
  have HE2 : Hid (∀ W, Below w.heap.size w W → Calls Try.prog 52 #[.agg #[v]] W fun e w' => e = .returned (.bool true) ∧ Below W.heap.size W w') := fun W h => c_spec_EngineValid k v vs W (hv.kept h) h1 h2 (by omega) (by omega)
  obtain ⟨b1, o1, c1, rfl⟩ := RdS_form1 hu hn1
  obtain ⟨b2, o2, c2, rfl⟩ := RdS_form1 hv (by omega)
  rw [hn] at hv HE2 hB0 ⊢
  have hdl : ∀ j, difE (cols k us) (cols k vs) j ≤ j * 12 := fun j => difE_le (fun s hs => by
    obtain ⟨x, _, rfl⟩ := List.mem_map.1 hs
    rw [colS_size]; exact h2) j
  have HDL := hidd hdl
  have HD : Hid (∀ j, j < us.length → difE (cols k us) (cols k vs) (j + 1) = difE (cols k us) (cols k vs) j + dif (colS k (us.getD j 0)).data.toList (colS k (vs.getD j 0)).data.toList k) := fun j hj => by
    rw [difE, cols_getD k us j hj, cols_getD k vs j (by omega), colS_size]
  have HD0 : Hid (difE (cols k us) (cols k vs) 0 = 0) := rfl
  obtain ⟨D, hD⟩ : ∃ D, difE (cols k us) (cols k vs) = D := ⟨_, rfl⟩
  rw [hD] at HD HD0 HDL ⊢
  clear hD hdl
  have hz0 : ((w.alloc (.cells #[.slice (some ⟨b1, o1, none⟩) us.length c1] 50)).alloc (.cells #[.slice (some ⟨b2, o2, none⟩) us.length c2] 50)).heap.size = w.heap.size + 2 := by simp
  have k0 : ((w.alloc (.cells #[.slice (some ⟨b1, o1, none⟩) us.length c1] 50)).alloc (.cells #[.slice (some ⟨b2, o2, none⟩) us.length c2] 50)).cell? ⟨w.heap.size, 0, none⟩ = some (.slice (some ⟨b1, o1, none⟩) us.length c1) := by simp [go_sem]
  have k1 : ((w.alloc (.cells #[.slice (some ⟨b1, o1, none⟩) us.length c1] 50)).alloc (.cells #[.slice (some ⟨b2, o2, none⟩) us.length c2] 50)).cell? ⟨w.heap.size + 1, 0, none⟩ = some (.slice (some ⟨b2, o2, none⟩) us.length c2) := by simp [go_sem]
  have HK := hidd (two_cells hu hv hB0 rfl hn k0 k1 (by omega))
  have HA := hidd hB0
  clear hu hv k0 k1 hz0
  go_enter Try.func24, Try.ntmps24
  go_wp2
  generalize hW2 : (w.alloc (.cells #[.slice (some ⟨b1, o1, none⟩) us.length c1] 50)).alloc (.cells #[.slice (some ⟨b2, o2, none⟩) us.length c2] 50) = w2 at *
  clear hW2
  have s2 : (colS k (us.getD 0 0)).size = k := colS_size _ _
  have s3 : (colS k (vs.getD 0 0)).size = k := colS_size _ _
  have HS : Hid (∀ wx, Below w2.heap.size w2 wx → (Below w2.heap.size w2 wx ∧ wx.cell? ⟨w.heap.size, 0, none⟩ = some (.slice (some ⟨b1, o1, none⟩) us.length c1) ∧ wx.cell? ⟨w.heap.size + 1, 0, none⟩ = some (.slice (some ⟨b2, o2, none⟩) us.length c2) ∧ wx.cell? ⟨b1, o1, none⟩ = some (.string (colS k (us.getD 0 0))) ∧ wx.cell? ⟨b2, o2, none⟩ = some (.string (colS k (vs.getD 0 0))))) := fun wx h => by
    obtain ⟨p0, p1, p2, p3⟩ := HK.out wx h
    exact ⟨h, p0, p1, p2 0 (by omega), p3 0 (by omega)⟩
  generalize colS k (us.getD 0 0) = X0 at *
  generalize colS k (vs.getD 0 0) = Y0 at *
  have HS2 : Hid (∀ wa wb, (Below w2.heap.size w2 wa ∧ wa.cell? ⟨w.heap.size, 0, none⟩ = some (.slice (some ⟨b1, o1, none⟩) us.length c1) ∧ wa.cell? ⟨w.heap.size + 1, 0, none⟩ = some (.slice (some ⟨b2, o2, none⟩) us.length c2) ∧ wa.cell? ⟨b1, o1, none⟩ = some (.string X0) ∧ wa.cell? ⟨b2, o2, none⟩ = some (.string Y0)) → Below wa.heap.size wa wb → (Below w2.heap.size w2 wb ∧ wb.cell? ⟨w.heap.size, 0, none⟩ = some (.slice (some ⟨b1, o1, none⟩) us.length c1) ∧ wb.cell? ⟨w.heap.size + 1, 0, none⟩ = some (.slice (some ⟨b2, o2, none⟩) us.length c2) ∧ wb.cell? ⟨b1, o1, none⟩ = some (.string X0) ∧ wb.cell? ⟨b2, o2, none⟩ = some (.string Y0))) := fun wa wb h k => HS.out wb (bthen h.1 k)
  have hk0 := HS.out _ (Below.refl _ w2).drew
  have HEE : Hid (∀ W x, (Below w2.heap.size w2 W ∧ W.cell? ⟨w.heap.size, 0, none⟩ = some (.slice (some ⟨b1, o1, none⟩) us.length c1) ∧ W.cell? ⟨w.heap.size + 1, 0, none⟩ = some (.slice (some ⟨b2, o2, none⟩) us.length c2) ∧ W.cell? ⟨b1, o1, none⟩ = some (.string X0) ∧ W.cell? ⟨b2, o2, none⟩ = some (.string Y0)) → (x = .slice (some ⟨b1, o1, none⟩) us.length c1 ∨ x = .slice (some ⟨b2, o2, none⟩) us.length c2) → Calls Try.prog 52 #[.agg #[x]] W fun e w' => e = .returned (.bool true) ∧ Below W.heap.size W w') := fun W x h hx => by
    rcases hx with rfl | rfl
    · exact HE1.out W (bthen HA.out h.1)
    · exact HE2.out W (bthen HA.out h.1)
  have g0 : (0 : Int) < us.length := by omega
  have g0n : 0 < us.length := by omega
  clear HE1 HE2 hB0
  go_region_held3 (fun wx => Below w2.heap.size w2 wx ∧ wx.cell? ⟨w.heap.size, 0, none⟩ = some (.slice (some ⟨b1, o1, none⟩) us.length c1) ∧ wx.cell? ⟨w.heap.size + 1, 0, none⟩ = some (.slice (some ⟨b2, o2, none⟩) us.length c2) ∧ wx.cell? ⟨b1, o1, none⟩ = some (.string X0) ∧ wx.cell? ⟨b2, o2, none⟩ = some (.string Y0)) (first | assumption | exact hk0 | exact HS2.out _ _ (by assumption) (by assumption))
    ((go_at_call 52; refine (HEE.out _ _ (by assumption) (by first | exact Or.inl rfl | exact Or.inr rfl)).mono ?_; rintro e w6 ⟨rfl, hb6⟩))
  rename_i hS
  have hB3 := hS.1
  clear hS hk0 HS2 HEE HS s2 s3
  go_wp2
  go_loopw [5, 6] (fun q i wr => ∃ j : Nat, j ≤ us.length ∧ i = .int .i64 j ∧ q = .int .i64 (D j) ∧ Below w2.heap.size w2 wr) (fun _ i _ => us.length - (intOf i).toNat)
  case atStart => exact ⟨0, by omega, rfl, by rw [HD0.out]; rfl, hB3⟩
  case round =>
    obtain ⟨j, hj, rfl, rfl, hB⟩ := hrel
    clear hB3
    obtain ⟨p0, p1, p2, _⟩ := HK.out _ hB
    by_cases hlt : j < us.length
    · have i0 : (0 : Int) ≤ (j : Int) := by omega
      have i1 : (j : Int) < (us.length : Int) := by omega
      have HDj := hidd (HD.out j hlt)
      have hDl := HDL.out j
      have HKJ : Hid (∀ wi, Below w2.heap.size w2 wi → wi.cell? ⟨w.heap.size, 0, none⟩ = some (.slice (some ⟨b1, o1, none⟩) us.length c1) ∧ wi.cell? ⟨w.heap.size + 1, 0, none⟩ = some (.slice (some ⟨b2, o2, none⟩) us.length c2) ∧ wi.cell? ⟨b1, o1 + j, none⟩ = some (.string (colS k (us.getD j 0))) ∧ wi.cell? ⟨b2, o2 + j, none⟩ = some (.string (colS k (vs.getD j 0)))) := fun wi h => by
        obtain ⟨a, b, c, d⟩ := HK.out wi h
        exact ⟨a, b, c j hlt, d j hlt⟩
      have s2 : (colS k (us.getD j 0)).size = k := colS_size _ _
      have s3 : (colS k (vs.getD j 0)).size = k := colS_size _ _
      clear p2
      generalize colS k (us.getD j 0) = X at *
      generalize colS k (vs.getD j 0) = Y at *
      have HBw := hidd hB
      go_wp2
      obtain ⟨W, hW⟩ : ∃ W : World, W = wr := ⟨_, rfl⟩
      subst hW
      go_loopw [5, 7] (fun q i wi => ∃ t : Nat, t ≤ k ∧ i = .int .i64 t ∧ q = .int .i64 ((D j : Int) + (dif X.data.toList Y.data.toList t : Int)) ∧ Below w2.heap.size w2 wi) (fun _ i _ => k - (intOf i).toNat)
      case atStart => exact ⟨0, by omega, rfl, by simp [dif], HBw.out⟩
      case round =>
        obtain ⟨t, ht, rfl, rfl, hBi⟩ := hrel
        clear p0 p1 hB
        obtain ⟨a0, a1, a2, a3⟩ := HKJ.out _ hBi
        by_cases htl : t < k
        · have t1 : t < X.size := by omega
          have t2 : t < Y.size := by omega
          have HS := hidd (dif_step t1 t2)
          have hdl := dif_le X.data.toList Y.data.toList t
          have HBn : Hid (∀ q, Below w2.heap.size w2 (wr.drewN q)) := fun q => below_drewN hBi q
          obtain ⟨x, hx⟩ : ∃ x, X[t] = x := ⟨_, rfl⟩
          obtain ⟨y, hy⟩ : ∃ y, Y[t] = y := ⟨_, rfl⟩
          rw [hx, hy] at HS
          by_cases hxy : x = y
          · subst hxy
            have HE : Hid (dif X.data.toList Y.data.toList (t + 1) = dif X.data.toList Y.data.toList t) := by show _ = _; rw [HS.out, if_pos rfl, Nat.add_zero]
            go_wp2
            go_quiet (fail)
            go_wp2
            go_roundw
            case rel => exact ⟨t + 1, by omega, by go_num, by rw [HE.out], HBn.out _⟩
            case measure => simp [intOf]; omega
          · have HE : Hid (dif X.data.toList Y.data.toList (t + 1) = dif X.data.toList Y.data.toList t + 1) := by show _ = _; rw [HS.out, if_neg hxy]
            have hne : ¬ ((x.toNat : Int) = (y.toNat : Int)) := fun e => hxy (UInt8.toNat_inj.1 (by omega))
            go_wp2
            go_quiet (fail)
            go_wp2
            go_roundw
            case rel => exact ⟨t + 1, by omega, by go_num, by rw [HE.out]; first | rfl | (push_cast; rfl) | (push_cast; congr 1; omega), HBn.out _⟩
            case measure => simp [intOf]; omega
        · obtain rfl : t = k := by omega
          have HE : Hid ((D (j + 1) : Int) = (D j : Int) + (dif X.data.toList Y.data.toList t : Int)) := by show _ = _; rw [HDj.out]; push_cast; rfl
          go_wp2
          go_roundw
          case rel => exact ⟨j + 1, by omega, by go_num, by rw [HE.out], hBi⟩
          case measure => simp [intOf]; omega
    · obtain rfl : j = us.length := by omega
      have HF : Hid (Below w.heap.size w wr) := bthen HA.out hB
      go_wp2
      go_ret
      exact ⟨rfl, HF.out⟩
end Go.Proofs.Ythjehjdcpfefcaa
