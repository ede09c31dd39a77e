/- Contracts: the decimal text of a number, in the reference. -/
import Derived.Test.YtdgnhplaakjlgaaGreatDoorMstr
import Derived.Test.YtdgnhplaakjlgaaGreatDoorStr0
import Derived.Test.YtdgnhplaakjlgaaGreatDoorIn1
namespace Go.Proofs.YtdgnhplaakjlgaaGreatDoor
set_option linter.unusedVariables false
open Go.RowKit

theorem dec_big {m : Nat} {L D : List UInt8} (h : 9 < m) (he : Lib.decDigits m ++ L = D) : Lib.decDigits (m / 10) ++ UInt8.ofNat (48 + m % 10) :: L = D := by
  rw [← he]
  conv => rhs; rw [Lib.decDigits, dif_neg (by omega)]
  simp
theorem dec_small {m : Nat} {L D : List UInt8} (h : m ≤ 9) (he : Lib.decDigits m ++ L = D) : UInt8.ofNat (48 + m) :: L = D := by
  rw [← he, Lib.decDigits, dif_pos (by omega)]
  rfl
def DecR (m : Nat) (O : ByteArray) (n : Nat) : Prop := Lib.decDigits m ++ O.data.toList = Lib.decDigits n

set_option maxRecDepth 20000 in
set_option maxHeartbeats 400000 in
theorem c_l9Dec_nat (n : Nat) (w : World) (h1 : n ≤ 1000000000000000) :
    Calls Tryz.prog 106 #[(.int .i64 ((n : Int)))] w (StrB (Lib.decDigits n) w) := by
  have h0 : DecR n ⟨#[]⟩ n := by unfold DecR; simp
  go_enter Tryz.func106, Tryz.ntmps106
  go_wp2
  go_loopw [0, 3] (fun k o wr => ∃ (m : Nat) (O : ByteArray), m ≤ n ∧ k = .int .i64 m ∧ o = .string O ∧ O.size + m ≤ n ∧ DecR m O n ∧ Below w.heap.size w wr) (fun k _ _ => (intOf k).toNat)
  case atStart => exact ⟨n, ⟨#[]⟩, Nat.le_refl _, rfl, rfl, by show 0 + n ≤ n; omega, h0, Below.refl _ _⟩
  case round =>
    obtain ⟨m, O, hm, rfl, rfl, hs, hd, hB⟩ := hrel
    have HD : Hid (DecR m O n) := hd
    clear hd
    by_cases hlt : 9 < m
    · have hc := conv1 wr (48 + (m : Int) % 10) (by omega) (by omega)
      have HN : Hid (byteOf (48 + (m : Int) % 10) = UInt8.ofNat (48 + m % 10)) := by show UInt8.ofNat _ = _; congr 1
      go_wp2
      go_roundw
      case rel =>
        refine ⟨m / 10, ⟨#[byteOf (48 + (m : Int) % 10)]⟩ ++ O, by omega, by go_num, rfl, by rw [ByteArray.size_append, show (ByteArray.mk #[byteOf (48 + (m : Int) % 10)]).size = 1 from rfl]; omega, ?_, hB.alloc hB.size _⟩
        unfold DecR
        rw [HN.out, ByteArray.data_append]
        simpa using dec_big hlt HD.out
      case measure => simp [intOf]; omega
    · have hc := conv1 wr (48 + (m : Int)) (by omega) (by omega)
      have HN : Hid (byteOf (48 + (m : Int)) = UInt8.ofNat (48 + m)) := by show UInt8.ofNat _ = _; congr 1
      go_wp2
      go_ret
      refine ⟨⟨#[byteOf (48 + (m : Int))]⟩ ++ O, rfl, ?_, hB.alloc hB.size _⟩
      unfold IsS
      rw [HN.out, ByteArray.data_append]
      simpa using dec_small (by omega) HD.out

theorem dec_len (n : Nat) (h : n ≤ 1000000000000000) : (Lib.decDigits n).length ≤ 16 := by
  rw [Lib.decDigits_length]
  by_cases h1 : n < 10
  · rw [Lib.nDigits_small h1]; omega
  · have hp : ∀ k, (Lib.nDigits n ≤ k ∨ 10 ^ k ≤ n) := fun k => by
      induction k generalizing n with
      | zero => right; simp; omega
      | succ k ih =>
        by_cases h2 : n < 10
        · left; rw [Lib.nDigits_small h2]; omega
        · by_cases h3 : n / 10 < 10
          · by_cases h4 : k = 0
            · right; subst h4; simp; omega
            · left; rw [Lib.nDigits_big h2, Lib.nDigits_small h3]; omega
          · rcases ih (n / 10) (by omega) h3 with h4 | h4
            · left; rw [Lib.nDigits_big h2]; omega
            · right; rw [Nat.pow_succ]; omega
    rcases hp 16 with h2 | h2
    · exact h2
    · omega
theorem itoa_nat (n : Nat) : Lib.itoa (n : Int) = Lib.decDigits n := by unfold Lib.itoa; rw [if_neg (by omega)]; rfl
theorem itoa_neg {n : Int} (h : n < 0) : Lib.itoa n = 45 :: Lib.decDigits (-n).toNat := by unfold Lib.itoa; rw [if_pos h]; congr 2; omega
theorem itoa_len {n : Int} (h0 : -1000000000000000 ≤ n) (h1 : n ≤ 1000000000000000) : (Lib.itoa n).length ≤ 17 := by
  by_cases h : n < 0
  · rw [itoa_neg h]; have := dec_len (-n).toNat (by omega); simp; omega
  · obtain ⟨k, rfl⟩ : ∃ k : Nat, n = k := ⟨n.toNat, by omega⟩
    rw [itoa_nat]; have := dec_len k (by omega); omega

theorem c_l9Dec (n : Int) (w : World) (h0 : -1000000000000000 ≤ n) (h1 : n ≤ 1000000000000000) :
    Calls Tryz.prog 106 #[(.int .i64 (n))] w (StrB (Lib.itoa n) w) := by
  by_cases hn : n < 0
  · have hm := itoa_neg hn
    have hl := dec_len (-n).toNat (by omega)
    have hc := c_l9Dec_nat (-n).toNat w (by omega)
    rw [show (((-n).toNat : Nat) : Int) = -n by omega] at hc
    rw [hm]
    generalize Lib.decDigits (-n).toNat = D at hc hl ⊢
    clear hm
    go_enter Tryz.func106, Tryz.ntmps106
    go_wp2_with (go_at_call 106; refine hc.mono ?_; rintro e w1 ⟨Y, rfl, hY, hB⟩; have hYs := hY.size; have hYl : Y.size ≤ 16 := (by omega); clear hYs)
    go_ret
    exact ⟨_, rfl, (IsS.mk [45]).app hY, hB⟩
  · obtain ⟨k, rfl⟩ : ∃ k : Nat, n = k := ⟨n.toNat, by omega⟩
    rw [itoa_nat]
    exact c_l9Dec_nat k w (by omega)
end Go.Proofs.YtdgnhplaakjlgaaGreatDoor
