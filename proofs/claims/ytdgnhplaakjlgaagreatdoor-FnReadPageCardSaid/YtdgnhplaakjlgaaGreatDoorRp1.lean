/- Contracts: the entries of the lines of a page, in the reference. -/
import Derived.Test.YtdgnhplaakjlgaaGreatDoorRpP2
import Derived.Test.YtdgnhplaakjlgaaGreatDoorNumF
import Derived.Test.YtdgnhplaakjlgaaGreatDoorPsum2
namespace Go.Proofs.YtdgnhplaakjlgaaGreatDoor
set_option linter.unusedVariables false
open Go.RowKit

def svL : Value → Nat
  | .string s => s.size
  | _ => 0
theorem trim_nil {T : ByteArray} (h : ¬ 0 < T.size) : Lib.trimLeftB T.data.toList 32 = T.data.toList := by
  have : T.data.toList = [] := List.eq_nil_of_length_eq_zero (by rw [size_data]; omega)
  rw [this]; rfl
theorem trim_stop {T : ByteArray} (h0 : 0 < T.size) (h : T[0] ≠ 32) : Lib.trimLeftB T.data.toList 32 = T.data.toList := by
  have hh := head_at (IsS.self T) h0
  cases hl : T.data.toList with
  | nil => rfl
  | cons c l =>
    rw [hl] at hh
    simp only [List.head?_cons, Option.some.injEq] at hh
    unfold Lib.trimLeftB
    rw [List.dropWhile_cons, if_neg (by rw [hh]; simpa using h)]
theorem trim_go {T : ByteArray} (h0 : 0 < T.size) (h : T[0] = 32) : Lib.trimLeftB (T.data.toList.drop 1) 32 = Lib.trimLeftB T.data.toList 32 := by
  have hh := head_at (IsS.self T) h0
  cases hl : T.data.toList with
  | nil => rfl
  | cons c l =>
    rw [hl] at hh
    simp only [List.head?_cons, Option.some.injEq] at hh
    unfold Lib.trimLeftB
    rw [List.dropWhile_cons, if_pos (by rw [hh]; simpa using h)]
    rfl
theorem made0I (w : World) (x : Obj) : ((w.alloc x).alloc (.cells #[] 3)).ownsRow (w.heap.size + 1) 3 1 (.slice (some ⟨w.heap.size + 1, 0, none⟩) 0 0) 0 [] := by
  have h := World.ownsRow_made (base := w.heap.size + 1) (e := 3) (size := 1) (w.alloc x) #[] 0 (by simp) (by decide) rfl
  have e : (w.alloc x).heap.size = w.heap.size + 1 := by simp
  rw [e] at h
  exact h

theorem own_drew2 {w w' : World} {n1 n2 base e size n : Nat} {v : Value} {xs : List Value} (h : w.ownsRow base e size v n xs) (hB : Below ((w.drewN n1).drewN n2).heap.size ((w.drewN n1).drewN n2) w') : w'.ownsRow base e size v n xs :=
  ownsRow_kept_below (w := (w.drewN n1).drewN n2) h hB
theorem own_drew1 {w w' : World} {n1 base e size n : Nat} {v : Value} {xs : List Value} (h : w.ownsRow base e size v n xs) (hB : Below (w.drewN n1).heap.size (w.drewN n1) w') : w'.ownsRow base e size v n xs :=
  ownsRow_kept_below (w := w.drewN n1) h hB
theorem below_drew2 {a w w' : World} {n1 n2 : Nat} (h : Below a.heap.size a w) (hB : Below ((w.drewN n1).drewN n2).heap.size ((w.drewN n1).drewN n2) w') : Below a.heap.size a w' :=
  bthen (below_drewN (below_drewN h _) _) hB
theorem below_drew1 {a w w' : World} {n1 : Nat} (h : Below a.heap.size a w) (hB : Below (w.drewN n1).heap.size (w.drewN n1) w') : Below a.heap.size a w' :=
  bthen (below_drewN h _) hB

set_option maxRecDepth 20000 in
set_option maxHeartbeats 3200000 in
theorem c_l6Cells (R A C : Nat) (v : Value) (ys : List ByteArray) (w : World) (ha : RdS w v ys) (hx : ys.length ≤ 1048576) (hs : ∀ y ∈ ys, y.size ≤ 1048576) (hl : layB R A C = true) :
    Calls Tryz.prog 30 #[(.agg #[.int .i64 (R : Int), .int .i64 (A : Int), .int .i64 (C : Int)]), v] w (FreshI w (celV ys C A)) := by
  have ha0 := ha
  obtain ⟨b, cap, rfl, ha1⟩ := ha0
  clear ha1
  simp only [List.length_map] at ha ⊢
  obtain ⟨l1, l2, l3, l4, l5, l6, l7, l8⟩ := lay_mul hl
  have HS : Hid (∀ y ∈ ys, y.size ≤ 1048576) := hs
  have hs0 := made0I w (.cells #[(.int .i64 ((R : Int))), (.int .i64 ((A : Int))), (.int .i64 ((C : Int)))] 24)
  have hcl := fun a (h : a ≤ 6) => show (celV ys C a).length ≤ 6 * 1048576 from Nat.le_trans (celV_len ys C a) (Nat.mul_le_mul h hx)
  have HCL := Lib.hid hcl
  clear hl l7 l8 hs hcl
  go_enter Tryz.func30, Tryz.ntmps30
  go_wp2
  go_loopw [5, 6] (fun o i wr => ∃ k : Nat, k ≤ A ∧ i = .int .i64 k ∧ OwnI wr (w.heap.size + 1) o (celV ys C k) ∧ Below (w.heap.size + 1) (w.alloc (.cells #[(.int .i64 ((R : Int))), (.int .i64 ((A : Int))), (.int .i64 ((C : Int)))] 24)) wr) (fun _ i _ => A - (intOf i).toNat)
  case atStart => exact ⟨0, by omega, rfl, hs0, (Below.refl _ _).alloc (by simp) _⟩
  case round =>
    obtain ⟨k, hk, rfl, ho, hB⟩ := hrel
    have c1 : wr.cell? ⟨w.heap.size, 1, none⟩ = some (.int .i64 ((A : Int))) := by rw [hB.cell (p := ⟨w.heap.size, 1, none⟩) (Nat.lt_succ_self _)]; simp [go_sem]
    by_cases hlt : k < A
    · obtain ⟨z, hz⟩ : ∃ z : Nat, k * (C + 1) = z := ⟨_, rfl⟩
      have hz1 : (k : Int) * ((C : Int) + 1) = (z : Int) := by rw [← hz]; simp
      have hz2 : z ≤ 6 * 13 := by rw [← hz]; exact Nat.mul_le_mul (by omega) (by omega)
      have HZ : Hid (k * (C + 1) = z) := hz
      clear hz hs0
      go_wp2
      go_loopw [5, 7] (fun o i wi => ∃ q : Nat, q ≤ ys.length ∧ i = .int .i64 q ∧ OwnI wi (w.heap.size + 1) o (celV ys C k ++ colV (ys.take q) C k) ∧ Below (w.heap.size + 1) (w.alloc (.cells #[(.int .i64 ((R : Int))), (.int .i64 ((A : Int))), (.int .i64 ((C : Int)))] 24)) wi) (fun _ i _ => ys.length - (intOf i).toNat)
      case atStart => exact ⟨0, by omega, rfl, by simpa [colV] using ho, hB⟩
      case round =>
        obtain ⟨q, hq, rfl, hoi, hBi⟩ := hrel
        clear ho hB c1
        have hBA : Below w.heap.size w wr := ((Below.refl _ _).alloc (Nat.le_refl _) _).trans (hBi.mono (by omega))
        have c2 : wr.cell? ⟨w.heap.size, 2, none⟩ = some (.int .i64 ((C : Int))) := by rw [hBi.cell (p := ⟨w.heap.size, 2, none⟩) (Nat.lt_succ_self _)]; simp [go_sem]
        by_cases hql : q < ys.length
        · obtain ⟨b1, o1, rfl, hb1, e1⟩ := RdS_cell ha hBA hql
          obtain ⟨y, hy⟩ : ∃ y, ys.getD q noS = y := ⟨_, rfl⟩
          have hys : y.size ≤ 1048576 := by rw [← hy]; exact HS.out _ (by simp [List.getD, hql])
          rw [hy] at e1
          have HY : Hid (ys.getD q noS = y) := hy
          clear hy ha
          have i1 : (0 : Int) ≤ (q : Int) := by omega
          have i2 : (q : Int) < (ys.length : Int) := by omega
          have hw : IntKind.i64.wrap ((z : Int) + (C : Int)) = (z : Int) + (C : Int) := IntWalk.i64_in _ (by omega)
          have ht := colV_take (C := C) (i := k) hql
          rw [HY.out] at ht
          have hd : hasC y.data.toList C k = decide (z + C ≤ y.size) := by unfold hasC; rw [HZ.out, size_data]
          by_cases hfit : z + C ≤ y.size
          · have hnum : cellNum y.data.toList C k = numP (Lib.trimLeftB ((y.data.toList.drop z).take C) 32) := by unfold cellNum; rw [HZ.out]
            have HT : Hid (colV (ys.take (q + 1)) C k = colV (ys.take q) C k ++ [(numP (Lib.trimLeftB ((y.data.toList.drop z).take C) 32)).getD 0]) := by
              show _ = _
              rw [ht, hd, decide_eq_true hfit, if_pos rfl]
              unfold cellV
              rw [hnum]
            have i3 : ¬ (y.size : Int) < (z : Int) + (C : Int) := by omega
            have i4 : (z : Int) + (C : Int) ≤ (y.size : Int) := by omega
            have i5 : (z : Int) ≤ (z : Int) + (C : Int) := by omega
            have i6 : (0 : Int) ≤ (z : Int) := by omega
            have i7 : ((z : Int) + (C : Int)).toNat = z + C := by omega
            clear ht hd hnum
            go_wp2
            go_quiet (fail)
            go_wp2
            go_quiet (fail)
            have hT0 : IsS (y.extract z (z + C)) ((y.data.toList.drop z).take C) := by
              have h := (IsS.self y).ext z (z + C)
              rwa [show z + C - z = C by omega] at h
            have hT0s : (y.extract z (z + C)).size ≤ 12 := by rw [ByteArray.size_extract]; omega
            obtain ⟨T0, hT0e⟩ : ∃ T0, y.extract z (z + C) = T0 := ⟨_, rfl⟩
            rw [hT0e] at hT0 hT0s ⊢
            have HT0 : Hid (IsS T0 ((y.data.toList.drop z).take C)) := hT0
            clear hT0e hT0 e1 hw i3 i4 i5 i7 i1 i2
            go_wp2
            go_loop [9] (fun t => ∃ T : ByteArray, t = .string T ∧ T.size ≤ 12 ∧ Lib.trimLeftB T.data.toList 32 = Lib.trimLeftB T0.data.toList 32) (fun t => svL t)
            case atStart => exact ⟨T0, rfl, hT0s, rfl⟩
            case round =>
              obtain ⟨T, rfl, hTs, hTt⟩ := hrel
              have HTt := Lib.hid hTt
              clear hTt
              by_cases h0 : 0 < T.size
              · by_cases h32 : T[0] = 32
                · have g1 : (0 : Int) < (T.size : Int) := by omega
                  have g2 : ((T[0].toNat : Int) == 32) = true := by rw [h32]; rfl
                  obtain ⟨U, g3, hUs, hU⟩ := slice_fromT T 1 (by omega)
                  rw [show ((1 : Nat) : Int) = 1 from rfl] at g3
                  have hU2 : U.size + 1 = T.size := by rw [hU.size, List.length_drop, size_data]; omega
                  have HU : Hid (Lib.trimLeftB U.data.toList 32 = Lib.trimLeftB T0.data.toList 32 ∧ U.size + 1 = T.size) := by
                    refine ⟨?_, hU2⟩
                    rw [show U.data.toList = T.data.toList.drop 1 from hU, trim_go h0 h32]
                    exact HTt.out
                  clear h32 hU hU2
                  go_wp2
                  go_round
                  case rel => first | exact ⟨U, rfl, (by have := HU.out.2; omega), HU.out.1⟩ | exact ⟨(by have := HU.out.2; omega), HU.out.1⟩ | exact ⟨⟨(by have := HU.out.2; omega), HU.out.1⟩, rfl⟩
                  case measure => have := HU.out.2; simp [svL]; omega
                · have g1 : (0 : Int) < (T.size : Int) := by omega
                  have g2 : ((T[0].toNat : Int) == 32) = false := by
                    rw [beq_eq_false_iff_ne]
                    intro e
                    apply h32
                    apply UInt8.toNat_inj.1
                    exact Int.ofNat.inj e
                  have HV : Hid ((numP T.data.toList) = numP (Lib.trimLeftB ((y.data.toList.drop z).take C) 32)) := by
                    show _ = _
                    rw [← show T0.data.toList = _ from HT0.out, ← HTt.out, trim_stop h0 h32]
                  clear h32
                  obtain ⟨x, hx1⟩ : ∃ x, (numP (Lib.trimLeftB ((y.data.toList.drop z).take C) 32)).getD 0 = x := ⟨_, rfl⟩
                  obtain ⟨bb, hbb⟩ : ∃ bb, (numP (Lib.trimLeftB ((y.data.toList.drop z).take C) 32)).isSome = bb := ⟨_, rfl⟩
                  have hn : ∀ W, Calls Tryz.prog 58 #[.string T] W fun e w' => e = .returned (.tuple #[.int .i64 x, .bool bb]) ∧ Below W.heap.size W w' := by
                    intro W
                    have h := c_l9Num T _ (IsS.self T) W (by omega)
                    unfold NumRet at h
                    rw [HV.out, hx1, hbb] at h
                    exact h
                  rw [hx1] at HT
                  have HN := Lib.hid hn
                  clear hn hx1 hbb
                  go_wp2_with fail
                  refine (HN.out _).mono ?_
                  rintro e w5 ⟨rfl, hB5⟩
                  have ho5 : OwnI w5 (w.heap.size + 1) u5 (celV ys C k ++ colV (ys.take q) C k) := by first | exact own_drew2 hoi hB5 | exact own_drew1 hoi hB5
                  have hB6 : Below (w.heap.size + 1) (w.alloc (.cells #[(.int .i64 ((R : Int))), (.int .i64 ((A : Int))), (.int .i64 ((C : Int)))] 24)) w5 := by
                    have hBi' : Below (w.alloc (.cells #[(.int .i64 ((R : Int))), (.int .i64 ((A : Int))), (.int .i64 ((C : Int)))] 24)).heap.size (w.alloc (.cells #[(.int .i64 ((R : Int))), (.int .i64 ((A : Int))), (.int .i64 ((C : Int)))] 24)) wr := by simpa using hBi
                    have h9 : Below (w.alloc (.cells #[(.int .i64 ((R : Int))), (.int .i64 ((A : Int))), (.int .i64 ((C : Int)))] 24)).heap.size (w.alloc (.cells #[(.int .i64 ((R : Int))), (.int .i64 ((A : Int))), (.int .i64 ((C : Int)))] 24)) w5 := by first | exact below_drew2 hBi' hB5 | exact below_drew1 hBi' hB5
                    simpa using h9
                  have hBs : w.heap.size + 1 ≤ w5.heap.size := by have := hB6.size; simp at this; omega
                  have hLl : (celV ys C k ++ colV (ys.take q) C k).length ≤ 7 * 1048576 := by
                    rw [List.length_append]
                    have h1 := HCL.out k (by omega)
                    have h2 := colV_len (ys.take q) C k
                    rw [List.length_take] at h2
                    omega
                  obtain ⟨L, hL⟩ : ∃ L, celV ys C k ++ colV (ys.take q) C k = L := ⟨_, rfl⟩
                  unfold OwnI at ho5
                  rw [hL] at ho5 hLl
                  have HL : Hid (celV ys C k ++ colV (ys.take (q + 1)) C k = L ++ [x]) := by show _ = _; rw [HT.out, ← List.append_assoc, hL]
                  clear hL hoi hBi hBA hB5 c2
                  go_wp2_with (first | (at_builtin; refine app1 28 3 Tryz.underlying28 infoInt rfl (by decide) rfl _ _ rfl (w.heap.size + 1) _ _ _ rfl ho5 rfl rfl ?c1 ?c2 ?_))
                  case c1 => omega
                  case c2 => exact hBs
                  intro v' wn ho6 hg6
                  have HO : Hid (OwnI wn (w.heap.size + 1) v' (celV ys C k ++ colV (ys.take (q + 1)) C k) ∧ Below (w.heap.size + 1) (w.alloc (.cells #[(.int .i64 ((R : Int))), (.int .i64 ((A : Int))), (.int .i64 ((C : Int)))] 24)) wn) :=
                    ⟨by rw [HL.out]; exact OwnI_snoc' rfl ho6, hB6.grown hg6 hBs (fun j hj => (ho5.lt j hj).1)⟩
                  clear ho5 ho6 hg6 hB6
                  go_wp2
                  go_roundw
                  case rel => exact ⟨q + 1, by omega, by go_num, HO.out.1, HO.out.2⟩
                  case measure => simp [intOf]; omega
              · have g1 : ¬ (0 : Int) < (T.size : Int) := by omega
                have HV : Hid ((numP T.data.toList) = numP (Lib.trimLeftB ((y.data.toList.drop z).take C) 32)) := by
                  show _ = _
                  rw [← show T0.data.toList = _ from HT0.out, ← HTt.out, trim_nil h0]
                obtain ⟨x, hx1⟩ : ∃ x, (numP (Lib.trimLeftB ((y.data.toList.drop z).take C) 32)).getD 0 = x := ⟨_, rfl⟩
                obtain ⟨bb, hbb⟩ : ∃ bb, (numP (Lib.trimLeftB ((y.data.toList.drop z).take C) 32)).isSome = bb := ⟨_, rfl⟩
                have hn : ∀ W, Calls Tryz.prog 58 #[.string T] W fun e w' => e = .returned (.tuple #[.int .i64 x, .bool bb]) ∧ Below W.heap.size W w' := by
                  intro W
                  have h := c_l9Num T _ (IsS.self T) W (by omega)
                  unfold NumRet at h
                  rw [HV.out, hx1, hbb] at h
                  exact h
                rw [hx1] at HT
                have HN := Lib.hid hn
                clear hn hx1 hbb
                go_wp2_with fail
                refine (HN.out _).mono ?_
                rintro e w5 ⟨rfl, hB5⟩
                have ho5 : OwnI w5 (w.heap.size + 1) u5 (celV ys C k ++ colV (ys.take q) C k) := by first | exact own_drew2 hoi hB5 | exact own_drew1 hoi hB5
                have hB6 : Below (w.heap.size + 1) (w.alloc (.cells #[(.int .i64 ((R : Int))), (.int .i64 ((A : Int))), (.int .i64 ((C : Int)))] 24)) w5 := by
                    have hBi' : Below (w.alloc (.cells #[(.int .i64 ((R : Int))), (.int .i64 ((A : Int))), (.int .i64 ((C : Int)))] 24)).heap.size (w.alloc (.cells #[(.int .i64 ((R : Int))), (.int .i64 ((A : Int))), (.int .i64 ((C : Int)))] 24)) wr := by simpa using hBi
                    have h9 : Below (w.alloc (.cells #[(.int .i64 ((R : Int))), (.int .i64 ((A : Int))), (.int .i64 ((C : Int)))] 24)).heap.size (w.alloc (.cells #[(.int .i64 ((R : Int))), (.int .i64 ((A : Int))), (.int .i64 ((C : Int)))] 24)) w5 := by first | exact below_drew2 hBi' hB5 | exact below_drew1 hBi' hB5
                    simpa using h9
                have hBs : w.heap.size + 1 ≤ w5.heap.size := by have := hB6.size; simp at this; omega
                have hLl : (celV ys C k ++ colV (ys.take q) C k).length ≤ 7 * 1048576 := by
                  rw [List.length_append]
                  have h1 := HCL.out k (by omega)
                  have h2 := colV_len (ys.take q) C k
                  rw [List.length_take] at h2
                  omega
                obtain ⟨L, hL⟩ : ∃ L, celV ys C k ++ colV (ys.take q) C k = L := ⟨_, rfl⟩
                unfold OwnI at ho5
                rw [hL] at ho5 hLl
                have HL : Hid (celV ys C k ++ colV (ys.take (q + 1)) C k = L ++ [x]) := by show _ = _; rw [HT.out, ← List.append_assoc, hL]
                clear hL hoi hBi hBA hB5 c2
                go_wp2_with (first | (at_builtin; refine app1 28 3 Tryz.underlying28 infoInt rfl (by decide) rfl _ _ rfl (w.heap.size + 1) _ _ _ rfl ho5 rfl rfl ?c1 ?c2 ?_))
                case c1 => omega
                case c2 => exact hBs
                intro v' wn ho6 hg6
                have HO : Hid (OwnI wn (w.heap.size + 1) v' (celV ys C k ++ colV (ys.take (q + 1)) C k) ∧ Below (w.heap.size + 1) (w.alloc (.cells #[(.int .i64 ((R : Int))), (.int .i64 ((A : Int))), (.int .i64 ((C : Int)))] 24)) wn) :=
                  ⟨by rw [HL.out]; exact OwnI_snoc' rfl ho6, hB6.grown hg6 hBs (fun j hj => (ho5.lt j hj).1)⟩
                clear ho5 ho6 hg6 hB6
                go_wp2
                go_roundw
                case rel => exact ⟨q + 1, by omega, by go_num, HO.out.1, HO.out.2⟩
                case measure => simp [intOf]; omega
          · have HT : Hid (colV (ys.take (q + 1)) C k = colV (ys.take q) C k) := by
              show _ = _
              rw [ht, hd, decide_eq_false hfit, if_neg (by decide), List.append_nil]
            have i3 : (y.size : Int) < (z : Int) + (C : Int) := by omega
            clear ht hd
            go_wp2
            go_quiet (fail)
            have HO : Hid (OwnI (wr.drewN nq) (w.heap.size + 1) u5 (celV ys C k ++ colV (ys.take (q + 1)) C k) ∧ Below (w.heap.size + 1) (w.alloc (.cells #[(.int .i64 ((R : Int))), (.int .i64 ((A : Int))), (.int .i64 ((C : Int)))] 24)) (wr.drewN nq)) := ⟨by rw [HT.out]; exact hoi, below_drewN hBi _⟩
            clear hoi hBi hBA e1 c2 hw
            go_wp2
            go_roundw
            case rel => exact ⟨q + 1, by omega, by go_num, HO.out.1, HO.out.2⟩
            case measure => simp [intOf]; omega
        · have HO : Hid (OwnI wr (w.heap.size + 1) u5 (celV ys C (k + 1)) ∧ Below (w.heap.size + 1) (w.alloc (.cells #[(.int .i64 ((R : Int))), (.int .i64 ((A : Int))), (.int .i64 ((C : Int)))] 24)) wr) := by
            rw [celV_succ]
            rw [List.take_of_length_le (by omega)] at hoi
            exact ⟨hoi, hBi⟩
          clear hoi hBi hBA c2 ha
          go_wp2
          go_roundw
          case rel => exact ⟨k + 1, by omega, by go_num, HO.out.1, HO.out.2⟩
          case measure => simp [intOf]; omega
    · have HO : Hid (OwnI wr w.heap.size u5 (celV ys C A) ∧ Below w.heap.size w wr) := by
        have hkA : k = A := by omega
        subst hkA
        exact ⟨ownsRow_mono ho (by omega), ((Below.refl _ _).alloc (Nat.le_refl _) _).trans (hB.mono (by omega))⟩
      clear ho hB hs0 ha
      go_wp2
      go_ret
      exact ⟨_, rfl, HO.out.1, HO.out.2⟩
end Go.Proofs.YtdgnhplaakjlgaaGreatDoor
