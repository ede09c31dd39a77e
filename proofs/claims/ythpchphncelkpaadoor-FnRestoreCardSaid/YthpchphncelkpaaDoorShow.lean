/- Contracts: a number is shown in a width of digits. -/
import Derived.Test.YthpchphncelkpaaDoorDrawW
import Derived.Test.YthpchphncelkpaaDoorNum
import Derived.Test.YthpchphncelkpaaDoorMir
import Derived.Test.YthpchphncelkpaaDoorShort
namespace Go.Proofs.YthpchphncelkpaaDoor
set_option linter.unusedVariables false
open Go.RowKit

theorem infoU8 : (Tryd.prog.info? 5).map (fun i => (i.zero, i.size, i.bytes)) = some (some (.int .u8 0), 1, 1) := by kernel_rfl
theorem holds_of_owns {w : World} {base b n cap : Nat} {l : List UInt8} (h : w.ownsRow base 5 1 (.slice (some ⟨b, 0, none⟩) n cap) n (l.map encB)) : Sort.Holds encB w b 0 l.toArray := by
  intro j hj
  have hl : l.length = n := by have := h.1; simpa using this
  have hj' : j < l.length := by simpa using hj
  rw [Nat.zero_add]
  refine ⟨?_, World.ownsRow.frozenAt h j⟩
  have := World.ownsRow.cellAt h j (by omega)
  rw [this, List.getElem?_map, List.getElem?_eq_getElem hj']
  simp [hj']
theorem mod_bd (n T : Int) (hn : 0 ≤ n) (hT : 1 ≤ T) : ∃ r, n.tmod T = r ∧ n % T = r ∧ 0 ≤ r ∧ r < T :=
  ⟨n % T, Int.tmod_eq_emod_of_nonneg hn, rfl, Int.emod_nonneg _ (by omega), Int.emod_lt_of_pos _ (by omega)⟩
theorem enc_dig (m : Nat) : encB (UInt8.ofNat (48 + m % 10)) = .int .u8 (48 + (m : Int) % 10) := by
  unfold encB
  congr 1
  rw [UInt8.toNat_ofNat']
  omega

set_option maxRecDepth 20000 in
set_option maxHeartbeats 800000 in
theorem c_l1Show (n k : Nat) (w : World) (hk0 : 1 ≤ k) (hk : k ≤ 12) (hn : n ≤ 1000000) :
    Calls Tryd.prog 49 #[.int .i64 n, .int .i64 k] w fun e w' => ∃ Y : ByteArray, e = .returned (.string Y) ∧ Y.size ≤ 12 ∧ Below w.heap.size w w' := by
  have hT := ten_bd (k := k) (by omega)
  have HC : Hid (∀ W, Calls Tryd.prog 89 #[.int .i64 k] W fun e w' => e = .returned (.int .i64 (ten k)) ∧ W = w') := fun W => c_l1Ten k W (by omega)
  generalize ten k = T at hT HC
  obtain ⟨hT1, hT2⟩ := hT
  obtain ⟨r1, q1, q2, q3, q4⟩ := mod_bd n T (by omega) hT1
  obtain ⟨r2, p1, p2, p3, p4⟩ := mod_bd (r1 + T) T (by omega) hT1
  have hz0 : (T = 0) = False := eq_false (by omega)
  have hz1 : (T == 0) = false := beq_eq_false_iff_ne.2 (by omega)
  go_enter Tryd.func49, Tryd.ntmps49
  go_wp2
  go_quiet ((go_at_call 89; exact quiet_left (HC.out _)))
  rename_i nq
  have hw1 : Below w.heap.size w (w.drewN nq) := below_drewN (Below.refl _ _) nq
  have hw2 : (w.drewN nq).heap.size = w.heap.size := rfl
  generalize w.drewN nq = wa at hw1 hw2 ⊢
  obtain ⟨m0, rfl⟩ : ∃ m0 : Nat, r2 = m0 := ⟨r2.toNat, by omega⟩
  have hm0 : m0 ≤ 100000000000000000 := by omega
  clear q1 q2 p1 p2 hz0 hz1 HC
  go_wp2_with (at_make; refine mkfull 22 5 Tryd.underlying22 infoU8 rfl (by decide) rfl _ _ rfl k rfl rfl rfl rfl (by omega) ?_; intro w2 ho2 hB2 hz2)
  rw [hw2] at ho2
  have hB2' := hw1.trans (hB2.mono (by omega))
  have ho2' : w2.ownsRow w.heap.size 5 1 (.slice (some ⟨w.heap.size, 0, none⟩) k k) k ((List.replicate k (0 : UInt8)).map encB) := by rw [List.map_replicate]; exact ho2
  clear ho2 hB2 hz2
  clear hw1 hw2
  go_loopw [0, 6] (fun v i wr => ∃ (m j : Nat) (l : List UInt8) (z : Int), m ≤ 100000000000000000 ∧ v = .int .i64 m ∧ j ≤ k ∧ z = (j : Int) - 1 ∧ i = .int .i64 z ∧ Hid (l.length = k) ∧ wr.ownsRow w.heap.size 5 1 (.slice (some ⟨w.heap.size, 0, none⟩) k k) k (l.map encB) ∧ Below w.heap.size w wr) (fun _ i _ => (intOf i + 1).toNat)
  case atStart => exact ⟨m0, k, List.replicate k 0, _, hm0, rfl, Nat.le_refl _, rfl, by go_num, by show _ = _; simp, ho2', hB2'⟩
  case round =>
    obtain ⟨m, j, l, z, hm, rfl, hj, hz, rfl, hl, ho, hB⟩ := hrel
    by_cases hp : 0 < j
    · obtain ⟨i, rfl⟩ : ∃ i, j = i + 1 := ⟨j - 1, by omega⟩
      obtain rfl : z = (i : Int) := by omega
      have e1 := World.ownsRow.cellAt ho i (by omega)
      have hil : i < l.length := by rw [hl.out]; omega
      rw [List.getElem?_map, List.getElem?_eq_getElem hil, Option.map_some] at e1
      have e2 := World.ownsRow.frozenAt ho i
      have hst := (World.ownsRow.stored ho i (.int .u8 (48 + (m : Int) % 10))).1
      rw [← enc_dig, ← List.map_set, enc_dig] at hst
      have HO : Hid (_ ∧ _ ∧ _) := ⟨hst, hB.setCell (p := ⟨w.heap.size, i, none⟩) (Nat.le_refl _) (.int .u8 (48 + (m : Int) % 10)), (by rw [List.length_set]; exact hl.out : (l.set i (UInt8.ofNat (48 + m % 10))).length = k)⟩
      have i2 : (i : Int) < (k : Int) := by omega
      clear ho hst hB hz hl
      go_wp2
      go_roundw
      case rel => exact ⟨m / 10, i, _, _, by omega, by go_num, by omega, rfl, by go_num, HO.out.2.2, HO.out.1, HO.out.2.1⟩
      case measure => simp [intOf]
    · have hz0 : z < 0 := by omega
      have hb := string_back wr w.heap.size k l (holds_of_owns ho)
      rw [hl.out] at hb
      have HO : Hid (l.length = k ∧ Below w.heap.size w wr) := ⟨hl.out, hB⟩
      clear ho hB hz hl
      go_wp2
      go_ret
      exact ⟨_, rfl, by show l.length ≤ 12; rw [HO.out.1]; omega, HO.out.2⟩
end Go.Proofs.YthpchphncelkpaaDoor
