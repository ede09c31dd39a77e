/- Contracts: a number with its digits in groups, program and reference. -/
import Derived.Test.YtmmbdkllolhfhaaDoorItoa
import Derived.Test.YtmmbdkllolhfhaaDoorBld
import Derived.Test.YtmmbdkllolhfhaaDoorRound
import Derived.WalkSpells
namespace Go.Proofs.YtmmbdkllolhfhaaDoor
set_option linter.unusedVariables false
open Go.RowKit

/-- the first k digits of t, in groups from the right -/
def grpK (t : List UInt8) : Nat → List UInt8
  | 0 => []
  | k + 1 => grpK t k ++ ((if 0 < k ∧ (t.length - k) % 3 = 0 then [32] else []) ++ (t.drop k).take 1)
def grpN (n : Nat) : List UInt8 := grpK (Lib.decDigits n) (Lib.decDigits n).length
def grpF (n : Int) : List UInt8 := if inB n (-1000000000) 1000000000 = true then (if n < 0 then 45 :: grpN (-n).toNat else grpN n.toNat) else []
theorem grpK_len (t : List UInt8) (k : Nat) : (grpK t k).length ≤ 2 * k := by
  induction k with
  | zero => simp [grpK]
  | succ k ih =>
    rw [grpK]
    have h1 : ((t.drop k).take 1).length ≤ 1 := by rw [List.length_take]; omega
    have h2 : (if 0 < k ∧ (t.length - k) % 3 = 0 then [32] else ([] : List UInt8)).length ≤ 1 := by split <;> simp
    simp only [List.length_append]
    omega
theorem grpN_len {n : Nat} (h : n ≤ 1000000000000000) : (grpN n).length ≤ 32 := by
  have h1 := grpK_len (Lib.decDigits n) (Lib.decDigits n).length
  have h2 := dec_len n h
  unfold grpN
  omega
theorem grpF_len (n : Int) : (grpF n).length ≤ 33 := by
  unfold grpF
  split
  · rename_i h
    obtain ⟨h1, h2⟩ := inB_iff.1 h
    split
    · have := grpN_len (n := (-n).toNat) (by omega); simp; omega
    · have := grpN_len (n := n.toNat) (by omega); omega
  · simp
theorem byteCells_snoc (l : List UInt8) (b : UInt8) : Lib.byteCells l ++ [.int .u8 (b.toNat : Int)] = Lib.byteCells (l ++ [b]) := by simp [Lib.byteCells]
theorem take1 {t : List UInt8} {k : Nat} (h : k < t.length) : (t.drop k).take 1 = [t[k]] := by
  rw [List.drop_eq_getElem_cons h]; rfl

set_option maxHeartbeats 800000 in
theorem c_spec_GroupDigits_nat (n : Nat) (w : World) (h1 : n ≤ 1000000000) :
    Calls Tryd.prog 22 #[(.int .i64 ((n : Int)))] w (StrB (grpN n) w) := by
  have hin : inB (n : Int) (-1000000000) 1000000000 = true := inB_t (by omega) (by omega)
  have hl := dec_len n (by omega)
  have hc := c_l9Dec (n : Int) w (by omega) (by omega)
  rw [itoa_nat] at hc
  unfold grpN
  generalize Lib.decDigits n = t at hc hl ⊢
  go_enter Tryd.func22, Tryd.ntmps22
  go_wp2_with (first | (go_at_call 47; refine (c_l4Amount _ _).mono ?_; rw [hin]; rintro e w' ⟨rfl, rfl⟩) | (go_at_call 48; refine hc.mono ?_; rintro e w1 ⟨T, rfl, hT, hB⟩; have hTs := hT.size; clear hin))
  have HTs : Hid (T.size = t.length) := hTs
  have hTl : T.size ≤ 16 := by omega
  clear hTs hc
  go_loop [4, 5] (fun o i => ∃ (k : Nat) (O : ByteArray), k ≤ T.size ∧ i = .int .i64 k ∧ o = .string O ∧ IsS O (grpK t k)) (fun _ i => T.size - (intOf i).toNat)
  case atStart => exact ⟨0, ⟨#[]⟩, Nat.zero_le _, rfl, rfl, rfl⟩
  case round =>
    obtain ⟨k, O, hk, rfl, rfl, hO⟩ := hrel
    have hOs := hO.size
    have hgl := grpK_len t k
    have hO1 : O.size ≤ 32 := by omega
    have HO : Hid (IsS O (grpK t k)) := hO
    clear hOs hgl hO
    by_cases hlt : k < T.size
    · have hkt : k < t.length := by rw [← HTs.out]; exact hlt
      have hj1 : (k : Int) + 1 ≤ (T.size : Int) := by omega
      have hj2 : (k : Int) ≤ (k : Int) + 1 := by omega
      have HX : Hid (IsS (T.extract k (k + 1)) ((t.drop k).take 1)) := by
        have h := hT.ext k (k + 1)
        rwa [show k + 1 - k = 1 by omega] at h
      by_cases hk0 : 0 < k
      · by_cases h3 : (t.length - k) % 3 = 0
        · have g1 : (0 : Int) < (k : Int) := by omega
          have g2 : (((T.size : Int) - (k : Int)) % 3 == 0) = true := beq_iff_eq.2 (by have := HTs.out; omega)
          have HG : Hid (grpK t (k + 1) = grpK t k ++ ([32] ++ (t.drop k).take 1)) := by show _ = _; rw [grpK, if_pos ⟨hk0, h3⟩]
          clear h3
          go_wp2
          go_round
          case rel => exact ⟨k + 1, _, by omega, by go_num, rfl, by rw [HG.out, ← List.append_assoc]; exact (HO.out.app (IsS.mk [32])).app HX.out⟩
          case measure => simp [intOf]; omega
        · have g1 : (0 : Int) < (k : Int) := by omega
          have g2 : (((T.size : Int) - (k : Int)) % 3 == 0) = false := beq_eq_false_iff_ne.2 (by have := HTs.out; omega)
          have HG : Hid (grpK t (k + 1) = grpK t k ++ (t.drop k).take 1) := by show _ = _; rw [grpK, if_neg (fun q => h3 q.2)]; rfl
          clear h3
          go_wp2
          go_round
          case rel => exact ⟨k + 1, _, by omega, by go_num, rfl, by rw [HG.out]; exact HO.out.app HX.out⟩
          case measure => simp [intOf]; omega
      · have g1 : ¬ (0 : Int) < (k : Int) := by omega
        have HG : Hid (grpK t (k + 1) = grpK t k ++ (t.drop k).take 1) := by show _ = _; rw [grpK, if_neg (fun q => hk0 q.1)]; rfl
        go_wp2
        go_round
        case rel => exact ⟨k + 1, _, by omega, by go_num, rfl, by rw [HG.out]; exact HO.out.app HX.out⟩
        case measure => simp [intOf]; omega
    · have HF : Hid (IsS O (grpK t t.length)) := by
        have h := HO.out
        rwa [show k = t.length by have := HTs.out; omega] at h
      go_wp2
      go_ret
      exact ⟨O, rfl, HF.out, hB⟩

theorem c_spec_GroupDigits (n : Int) (w : World) :
    Calls Tryd.prog 22 #[(.int .i64 (n))] w (StrB (grpF n) w) := by
  cases hin : inB n (-1000000000) 1000000000
  · have HR : Hid (grpF n = []) := by show _ = _; unfold grpF; rw [hin]; rfl
    go_enter Tryd.func22, Tryd.ntmps22
    go_wp2_with (go_at_call 47; refine (c_l4Amount _ _).mono ?_; rw [hin]; rintro e w' ⟨rfl, rfl⟩)
    go_ret
    exact ⟨_, rfl, by rw [HR.out]; rfl, Below.refl _ _⟩
  · obtain ⟨h1, h2⟩ := inB_iff.1 hin
    by_cases hn : n < 0
    · have HR : Hid (grpF n = 45 :: grpN (-n).toNat) := by show _ = _; unfold grpF; rw [hin, if_pos rfl, if_pos hn]
      have hl := grpN_len (n := (-n).toNat) (by omega)
      have hc := c_spec_GroupDigits_nat (-n).toNat w (by omega)
      rw [show (((-n).toNat : Nat) : Int) = -n by omega] at hc
      generalize grpN (-n).toNat = G at hc hl HR
      go_enter Tryd.func22, Tryd.ntmps22
      go_wp2_with (first | (go_at_call 47; refine (c_l4Amount _ _).mono ?_; rw [hin]; rintro e w' ⟨rfl, rfl⟩) | (go_at_call 22; refine hc.mono ?_; rintro e w1 ⟨Y, rfl, hY, hB⟩; have hYs := hY.size; have hYl : Y.size ≤ 33 := (by omega); clear hYs))
      go_ret
      exact ⟨_, rfl, by rw [HR.out]; exact (IsS.mk [45]).app hY, hB⟩
    · obtain ⟨k, rfl⟩ : ∃ k : Nat, n = k := ⟨n.toNat, by omega⟩
      have HR : grpF (k : Int) = grpN k := by unfold grpF; rw [hin, if_pos rfl, if_neg hn, Int.toNat_natCast]
      rw [HR]
      exact c_spec_GroupDigits_nat k w (by omega)
end Go.Proofs.YtmmbdkllolhfhaaDoor
