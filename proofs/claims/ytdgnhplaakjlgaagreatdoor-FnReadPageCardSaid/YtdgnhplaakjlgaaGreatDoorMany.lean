/- Contracts: a string repeated, in the reference's way and in the library's. -/
import Derived.Test.YtdgnhplaakjlgaaGreatDoorStr0
import Derived.Test.YtdgnhplaakjlgaaGreatDoorShelf
namespace Go.Proofs.YtdgnhplaakjlgaaGreatDoor
set_option linter.unusedVariables false
open Go.RowKit

def Man (O S : ByteArray) (n : Nat) (T : List UInt8) : Prop := O.data.toList ++ Lib.repeatL S.data.toList n = T
theorem Man.len {O S : ByteArray} {n : Nat} {T : List UInt8} (h : Man O S n T) : O.size + n * S.size = T.length := by
  rw [← h, List.length_append, size_data, rep_len, size_data]
theorem Man.odd {O S : ByteArray} {n : Nat} {T : List UInt8} (h : Man O S n T) (h1 : n % 2 = 1) : Man (O ++ S) (S ++ S) (n / 2) T := by
  unfold Man at h ⊢
  rw [ByteArray.data_append, ByteArray.data_append, Array.toList_append, Array.toList_append, rep_dbl, ← h]
  conv => rhs; rw [show n = 1 + 2 * (n / 2) by omega, rep_add]
  simp [Lib.repeatL]
theorem Man.even {O S : ByteArray} {n : Nat} {T : List UInt8} (h : Man O S n T) (h1 : n % 2 = 0) : Man O (S ++ S) (n / 2) T := by
  unfold Man at h ⊢
  rw [ByteArray.data_append, Array.toList_append, rep_dbl, show 2 * (n / 2) = n by omega, h]

set_option maxRecDepth 20000 in
set_option maxHeartbeats 400000 in
theorem c_l9Many (s : ByteArray) (n : Int) (w : World) (h : s.size * n.toNat ≤ 1099511627776) (hs : s.size ≤ 1099511627776) (hn : n ≤ 1099511627776) :
    Calls Tryz.prog 107 #[.string s, (.int .i64 (n))] w (StrQ (Lib.repeatL s.data.toList n.toNat) w) := by
  have hT : (Lib.repeatL s.data.toList n.toNat).length ≤ 1099511627776 := by rw [rep_len, size_data, Nat.mul_comm]; exact h
  have h0 : Man ⟨#[]⟩ s n.toNat (Lib.repeatL s.data.toList n.toNat) := rfl
  generalize Lib.repeatL s.data.toList n.toNat = T at hT h0
  by_cases hneg : n ≤ 0
  · have hz : IsS ⟨#[]⟩ T := by rw [show n.toNat = 0 by omega] at h0; exact h0.symm ▸ rfl
    clear h0
    go_enter Tryz.func107, Tryz.ntmps107
    go_wp2
    refine wp_loop_rounds 1 ?_
    rw [rounds_succ]
    go_wp2
    go_ret
    exact ⟨_, rfl, hz, rfl⟩
  · obtain ⟨N, rfl⟩ : ∃ N : Nat, n = N := ⟨n.toNat, by omega⟩
    rw [Int.toNat_natCast] at h0 h
    go_enter Tryz.func107, Tryz.ntmps107
    go_wp2
    go_loop [0, 1, 5] (fun a b c => ∃ (S : ByteArray) (m : Nat) (O : ByteArray), a = .string S ∧ b = .int .i64 m ∧ c = .string O ∧ m ≤ N ∧ Man O S m T) (fun _ b _ => (intOf b).toNat)
    case atStart => exact ⟨s, N, ⟨#[]⟩, rfl, rfl, rfl, Nat.le_refl _, h0⟩
    case round =>
      obtain ⟨S, m, O, rfl, rfl, rfl, hm, hM⟩ := hrel
      have hl := hM.len
      by_cases hp : 0 < m
      · have hS : S.size ≤ m * S.size := Nat.le_mul_of_pos_left _ hp
        have hS1 : S.size ≤ 1099511627776 := by omega
        have hO1 : O.size ≤ 1099511627776 := by omega
        clear hl hS
        by_cases ho : m % 2 = 1
        · have hM' := hM.odd ho
          have e : ((m : Int) % 2 == 1) = true := beq_iff_eq.2 (by omega)
          clear ho
          go_wp2
          go_round
          case rel => exact ⟨S ++ S, m / 2, O ++ S, rfl, by go_num, rfl, by omega, hM'⟩
          case measure => simp [intOf]; omega
        · have hM' := hM.even (by omega)
          have e : ((m : Int) % 2 == 1) = false := beq_eq_false_iff_ne.2 (by omega)
          clear ho
          go_wp2
          go_round
          case rel => exact ⟨S ++ S, m / 2, O, rfl, by go_num, rfl, by omega, hM'⟩
          case measure => simp [intOf]; omega
      · have hz : IsS O T := by
          unfold IsS; unfold Man at hM
          rw [show m = 0 by omega] at hM
          simpa [Lib.repeatL] using hM
        clear hM hl
        go_wp2
        go_ret
        exact ⟨O, rfl, hz, rfl⟩

theorem c_Repeat (s : ByteArray) (n : Int) (w : World) (h : s.size * n.toNat ≤ 1099511627776) (h0 : 0 ≤ n) (hn : n ≤ 1099511627776) :
    Calls Tryz.prog 35 #[.string s, (.int .i64 (n))] w (StrB (Lib.repeatL s.data.toList n.toNat) w) := by
  obtain ⟨N, rfl⟩ : ∃ N : Nat, n = N := ⟨n.toNat, by omega⟩
  rw [Int.toNat_natCast] at h ⊢
  exact (Tryz.strings_Repeat s N w (by omega) (by omega)).mono fun e w' ⟨he, hb⟩ => ⟨_, he, IsS.mk _, hb⟩
theorem c_RepeatSp (n : Int) (w : World) (h0 : 0 ≤ n) (hn : n ≤ 1099511627776) :
    Calls Tryz.prog 35 #[.string ⟨#[32]⟩, (.int .i64 (n))] w (StrB (List.replicate n.toNat 32) w) := by
  have h := c_Repeat ⟨#[32]⟩ n w (by rw [show (ByteArray.mk #[32]).size = 1 from rfl]; omega) h0 hn
  rwa [show (ByteArray.mk #[32]).data.toList = [32] from rfl, rep_one] at h
theorem c_ManySp (b : UInt8) (n : Int) (w : World) (hn : n ≤ 1099511627776) :
    Calls Tryz.prog 107 #[.string ⟨#[b]⟩, (.int .i64 (n))] w (StrQ (List.replicate n.toNat b) w) := by
  have h := c_l9Many ⟨#[b]⟩ n w (by rw [show (ByteArray.mk #[b]).size = 1 from rfl]; omega) (by rw [show (ByteArray.mk #[b]).size = 1 from rfl]; omega) hn
  rwa [show (ByteArray.mk #[b]).data.toList = [b] from rfl, rep_one] at h
end Go.Proofs.YtdgnhplaakjlgaaGreatDoor
