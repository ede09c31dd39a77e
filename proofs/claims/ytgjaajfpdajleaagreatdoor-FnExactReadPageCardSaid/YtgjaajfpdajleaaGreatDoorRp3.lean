/- Contracts: the entries of a line of a page, in the program. -/
import Derived.Test.YtgjaajfpdajleaaGreatDoorRp2
import Derived.Test.YtgjaajfpdajleaaGreatDoorSlEq
namespace Go.Proofs.YtgjaajfpdajleaaGreatDoor
set_option linter.unusedVariables false
open Go.RowKit

def rowK (L : List UInt8) (C k : Nat) : List Int := (List.range k).map fun i => cellV L C i
theorem rowK_succ (L : List UInt8) (C k : Nat) : rowK L C (k + 1) = rowK L C k ++ [cellV L C k] := by
  unfold rowK; rw [List.range_succ, List.map_append]; rfl
theorem rowK_len (L : List UInt8) (C k : Nat) : (rowK L C k).length = k := by simp [rowK]
def rowF (L : List UInt8) (C : Nat) : List Int := if rowB L C = true then rowV L C else []
theorem row_bad {L : List UInt8} {C k : Nat} (hk : k < rowM L C) (h : cellNum L C k = none) : rowB L C = false := by
  unfold rowB
  rw [Bool.and_eq_false_iff]
  right
  rw [List.all_eq_false]
  exact ⟨k, List.mem_range.2 hk, by rw [h]; simp⟩

set_option maxRecDepth 20000 in
set_option maxHeartbeats 1600000 in
theorem c_readLine (R A C : Nat) (y : ByteArray) (w : World) (htab : TabW w) (herr : ErrW w) (hsz : y.size ≤ 1048576) (hl : layB R A C = true) :
    Calls Tryz.prog 88 #[(.agg #[.int .i64 (R : Int), .int .i64 (A : Int), .int .i64 (C : Int)]), .string y] w (FreshIB w (rowF y.data.toList C) (rowB y.data.toList C)) := by
  obtain ⟨l1, l2, l3, l4, l5, l6, l7, l8⟩ := lay_mul hl
  have hr0 : ((C : Int) + 1 = 0) = False := eq_false (by omega)
  have hdm := Nat.div_add_mod (y.size + 1) (C + 1)
  have hsd := size_data y
  have hM : rowM y.data.toList C = (y.size + 1) / (C + 1) := by unfold rowM; rw [hsd]
  have hmod : ((y.size : Int) + 1) % ((C : Int) + 1) = (((y.size + 1) % (C + 1) : Nat) : Int) := by simp
  have hmod0 := Nat.zero_le ((y.size + 1) % (C + 1))
  obtain ⟨ρ, hρ⟩ : ∃ ρ, (y.size + 1) % (C + 1) = ρ := ⟨_, rfl⟩
  rw [hρ] at hdm hmod hmod0
  clear hl l7 l8
  by_cases h0 : ρ = 0
  · subst h0
    obtain ⟨m, hm⟩ : ∃ m, (y.size + 1) / (C + 1) = m := ⟨_, rfl⟩
    rw [hm] at hM hdm
    have hdm : m * (C + 1) = y.size + 1 := by rw [Nat.mul_comm]; exact hdm
    have e0 : (((y.size : Int) + 1) % ((C : Int) + 1) != 0) = false := by rw [hmod]; rfl
    obtain ⟨B, hb⟩ : ∃ B, rowB y.data.toList C = B := ⟨_, rfl⟩
    obtain ⟨F, hf⟩ : ∃ F, rowF y.data.toList C = F := ⟨_, rfl⟩
    have HE : Hid (rowB y.data.toList C = B ∧ rowF y.data.toList C = F ∧ rowM y.data.toList C = m ∧ (y.size + 1) % (C + 1) = 0) := ⟨hb, hf, hM, hρ⟩
    rw [hb, hf]
    have HDM := Lib.hid hdm
    have HD : Hid (y.data.toList.length = y.size) := hsd
    clear hb hf hM hρ hmod hmod0 hdm hm hsd
    go_enter Tryz.func88, Tryz.ntmps88
    go_wp2
    go_loopw [6, 7] (fun o i wr => ∃ k t : Nat, k ≤ m ∧ Hid (k * (C + 1) = t) ∧ t ≤ 1048577 ∧ i = .int .i64 t ∧ OwnI wr (w.heap.size + 1) o (rowK y.data.toList C k) ∧ Hid ((List.range k).all (fun i => (cellNum y.data.toList C i).isSome) = true) ∧ Below (w.heap.size + 1) (w.alloc (.cells #[(.int .i64 ((R : Int))), (.int .i64 ((A : Int))), (.int .i64 ((C : Int)))] 27)) wr) (fun _ i _ => 2000000 - (intOf i).toNat)
    case atStart => exact ⟨0, 0, by omega, Nat.zero_mul _, by omega, rfl, OwnI_nil _ _, rfl, Below.refl _ _⟩
    case round =>
      obtain ⟨k, t, hk, HT, ht, rfl, ho, HK, hB⟩ := hrel
      have hBA : Below w.heap.size w wr := ((Below.refl _ _).alloc (Nat.le_refl _) _).trans (hB.mono (by omega))
      have c2 : wr.cell? ⟨w.heap.size, 2, none⟩ = some (.int .i64 ((C : Int))) := by rw [hB.cell (p := ⟨w.heap.size, 2, none⟩) (Nat.lt_succ_self _)]; simp [go_sem]
      have hzr : w.heap.size < wr.heap.size := by have := hB.size; simp at this; omega
      by_cases hkm : k < m
      · have hfit : t + C + 1 ≤ y.size + 1 := by
          have h1 := Nat.mul_le_mul_right (C + 1) (show k + 1 ≤ m by omega)
          rw [Nat.add_mul] at h1
          have h2 := HT.out
          have h3 := HDM.out
          omega
        have hlt : t < y.size := by omega
        have i4 : (t : Int) + (C : Int) ≤ (y.size : Int) := by omega
        have i5 : (t : Int) ≤ (t : Int) + (C : Int) := by omega
        have i7 : ((t : Int) + (C : Int)).toNat = t + C := by omega
        have hT0 : IsS (y.extract t (t + C)) ((y.data.toList.drop t).take C) := by
          have h := (IsS.self y).ext t (t + C)
          rwa [show t + C - t = C by omega] at h
        obtain ⟨T0, hT0e⟩ : ∃ T0, y.extract t (t + C) = T0 := ⟨_, rfl⟩
        have hT0s : T0.size ≤ 12 := by rw [← hT0e, ByteArray.size_extract]; omega
        have hct := fun W => c_TrimLeft T0 W
        rw [hT0e] at hT0
        have hnum : cellNum y.data.toList C k = numP (Lib.trimLeftB T0.data.toList 32) := by
          unfold cellNum; rw [HT.out, show T0.data.toList = _ from hT0]
        clear hT0
        go_wp2_with fail
        refine (hct _).mono ?_
        rintro e w' ⟨U, rfl, hU, rfl⟩
        have hUs : U.size ≤ 12 := by
          rw [hU.size]
          have : (Lib.trimLeftB T0.data.toList 32).length ≤ T0.data.toList.length := by unfold Lib.trimLeftB; exact (List.dropWhile_sublist _).length_le
          rw [size_data] at this
          omega
        have hp := c_parseNumber U _ hU wr (htab.below hBA) (herr.below hBA) (by omega)
        unfold NumRet at hp
        rw [← hnum] at hp
        clear hct hT0e hU i4 i5 i7 hnum hBA
        cases hn : cellNum y.data.toList C k with
        | none =>
          have HB : Hid (B = false ∧ F = []) := by
            have h1 : B = false := by rw [← HE.out.1]; exact row_bad (by rw [HE.out.2.2.1]; exact hkm) hn
            refine ⟨h1, ?_⟩
            rw [← HE.out.2.1]; unfold rowF; rw [HE.out.1, h1]; rfl
          rw [hn] at hp
          replace hp : Calls Tryz.prog 112 #[.string U] wr fun e w' => e = .returned (.tuple #[.int .i64 0, .bool false]) ∧ Below wr.heap.size wr w' := hp
          clear hn
          go_wp2_with fail
          refine hp.mono ?_
          rintro e w5 ⟨rfl, hB5⟩
          have hF : Below w.heap.size w w5 := ((Below.refl _ _).alloc (Nat.le_refl _) _).trans ((hB.trans (hB5.mono (by omega))).mono (by omega))
          clear hp hB5 ho hB c2
          go_wp2
          go_ret2
          exact ⟨_, by rw [HB.out.1]; rfl, by rw [HB.out.2]; exact OwnI_nil _ _, hF⟩
        | some n =>
          have HK2 : Hid ((List.range (k + 1)).all (fun i => (cellNum y.data.toList C i).isSome) = true) := by
            show _ = _
            rw [List.range_succ, List.all_append, HK.out]
            simp [hn]
          have hR := rowK_succ y.data.toList C k
          have hcv : cellV y.data.toList C k = n := by unfold cellV; rw [hn]; rfl
          rw [hcv] at hR
          rw [hn] at hp
          replace hp : Calls Tryz.prog 112 #[.string U] wr fun e w' => e = .returned (.tuple #[.int .i64 n, .bool true]) ∧ Below wr.heap.size wr w' := hp
          have hlen := rowK_len y.data.toList C k
          obtain ⟨L, hL⟩ : ∃ L, rowK y.data.toList C k = L := ⟨_, rfl⟩
          rw [hL] at hR hlen ho
          have HR := Lib.hid hR
          have hm9 : m ≤ 1048577 := by
            have h1 := Nat.mul_le_mul_left m (show 1 ≤ C + 1 by omega)
            have h3 := HDM.out
            omega
          have HL : Hid (L.length = k) := hlen
          have hLl : L.length ≤ 1048577 := by omega
          clear hn hcv hR hL hlen
          go_wp2_with fail
          refine hp.mono ?_
          rintro e w5 ⟨rfl, hB5⟩
          replace ho := ownsRow_kept_below ho hB5
          replace hB := hB.trans (hB5.mono (by omega))
          have hBs : w.heap.size + 1 ≤ w5.heap.size := by have := hB.size; simp at this; omega
          have c3 : w5.cell? ⟨w.heap.size, 2, none⟩ = some (.int .i64 ((C : Int))) := by rw [(bcell hB5).1 _ _ hzr]; exact c2
          unfold OwnI at ho
          clear hp hB5 c2
          go_wp2_with (first | (at_builtin; refine app1 24 3 Tryz.underlying24 infoInt rfl (by decide) rfl _ _ rfl (w.heap.size + 1) _ _ _ rfl ho rfl rfl ?c1 ?c2 ?_))
          case c1 => omega
          case c2 => exact hBs
          intro v' w6 ho6 hg6
          have hB6 := hB.grown hg6 hBs (fun j hj => (ho.lt j hj).1)
          have d2 : w6.cell? ⟨w.heap.size, 2, none⟩ = some (.int .i64 ((C : Int))) := by rw [hB6.cell (p := ⟨w.heap.size, 2, none⟩) (Nat.lt_succ_self _)]; simp [go_sem]
          have HO : Hid (OwnI w6 (w.heap.size + 1) v' (rowK y.data.toList C (k + 1)) ∧ Below (w.heap.size + 1) (w.alloc (.cells #[(.int .i64 ((R : Int))), (.int .i64 ((A : Int))), (.int .i64 ((C : Int)))] 27)) w6) := ⟨by rw [HR.out]; exact OwnI_snoc' rfl ho6, hB6⟩
          clear ho ho6 hg6 hB hB6 c3
          go_wp2
          go_roundw
          case rel => exact ⟨k + 1, t + (C + 1), by omega, by have := HT.out; show _ = _; rw [Nat.add_mul]; omega, by omega, by go_num, HO.out.1, HK2, HO.out.2⟩
          case measure => simp [intOf]; omega
      · have hlt : ¬ t < y.size := by
          have h2 := HT.out
          have h3 := HDM.out
          have h4 : k = m := by omega
          rw [h4] at h2
          omega
        have HB : Hid (B = true ∧ OwnI wr w.heap.size u6 F ∧ Below w.heap.size w wr) := by
          have h4 : k = m := by omega
          have h1 : B = true := by
            rw [← HE.out.1]
            unfold rowB
            rw [HD.out, HE.out.2.2.2, HE.out.2.2.1, ← h4, HK.out]
            rfl
          refine ⟨h1, ?_, hBA⟩
          have hF : F = rowK y.data.toList C k := by
            rw [← HE.out.2.1]; unfold rowF; rw [HE.out.1, h1, if_pos rfl]; unfold rowV rowK; rw [HE.out.2.2.1, h4]
          rw [hF]
          exact ownsRow_mono ho (by omega)
        clear ho hB c2 hBA
        go_wp2
        go_ret2
        exact ⟨_, by rw [HB.out.1]; rfl, HB.out.2.1, HB.out.2.2⟩
  · have hb : rowB y.data.toList C = false := by
      unfold rowB; rw [hsd, hρ, decide_eq_false h0]; rfl
    have hf : rowF y.data.toList C = [] := by unfold rowF; rw [hb]; rfl
    have e0 : (((y.size : Int) + 1) % ((C : Int) + 1) != 0) = true := by rw [hmod, bne_iff_ne]; omega
    rw [hb, hf]
    clear hb hf hM hmod hmod0 hρ h0 hdm hsd
    go_enter Tryz.func88, Tryz.ntmps88
    go_wp2
    go_ret2
    exact ⟨_, rfl, OwnI_nil _ _, (Below.refl _ _).alloc (Nat.le_refl _) _⟩
end Go.Proofs.YtgjaajfpdajleaaGreatDoor
