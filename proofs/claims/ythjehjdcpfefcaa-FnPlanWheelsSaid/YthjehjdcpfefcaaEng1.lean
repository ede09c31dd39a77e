/- Contracts of columns: remainders, a number is shown, the number that a column shows and stands for; program and reference. -/
import Derived.Test.YthjehjdcpfefcaaEngP
import Derived.Test.YthjehjdcpfefcaaEnc
import Derived.Test.YthjehjdcpfefcaaPoly7
import Derived.Deep.QuietTactic
import Derived.BigQuiet
namespace Go.Proofs.Ythjehjdcpfefcaa
set_option linter.unusedVariables false
open Go.RowKit

theorem infoU8 : (Try.prog.info? 5).map (fun i => (i.zero, i.size, i.bytes)) = some (some (.int .u8 0), 1, 1) := by kernel_rfl
theorem holds_of_owns {w : World} {base b n cap : Nat} {l : List UInt8} (h : w.ownsRow base 5 1 (.slice (some ⟨b, 0, none⟩) n cap) n (l.map encB)) : Sort.Holds encB w b 0 l.toArray := by
  intro j hj
  have hl : l.length = n := by have := h.1; simpa using this
  have hj' : j < l.length := by simpa using hj
  rw [Nat.zero_add]
  refine ⟨?_, World.ownsRow.frozenAt h j⟩
  have := World.ownsRow.cellAt h j (by omega)
  rw [this, List.getElem?_map, List.getElem?_eq_getElem hj']
  simp [hj']
theorem enc_dig (m : Nat) : encB (UInt8.ofNat (48 + m % 10)) = .int .u8 (48 + (m : Int) % 10) := by
  unfold encB
  congr 1
  rw [UInt8.toNat_ofNat']
  omega
theorem tmod_fix (n T : Int) (hT : 1 ≤ T) : ∃ r, n.tmod T = r ∧ -T < r ∧ r < T ∧ (r + T).tmod T = n % T := by
  have h0 := Int.emod_lt_of_pos n (b := T) (by omega)
  have hb := Int.emod_nonneg n (b := T) (by omega)
  rcases tmod_cases n T hT with ⟨h1, h2, h3⟩ | ⟨h1, h2, h3⟩
  · refine ⟨n.tmod T, rfl, by omega, h3, ?_⟩
    rw [Int.tmod_eq_emod_of_nonneg (by omega), Int.add_emod_right, h2, Int.emod_emod_of_dvd _ (Int.dvd_refl _)]
  · refine ⟨n.tmod T, rfl, h3, by omega, ?_⟩
    rw [h2, Int.tmod_eq_emod_of_nonneg hb, Int.emod_emod_of_dvd _ (Int.dvd_refl _)]

/-- the digits are written from the last one on -/
def ShwR (W v m j : Nat) (l : List UInt8) : Prop := l.length = W ∧ shw j m ++ l.drop j = shw W v
theorem ShwR.start (W v : Nat) : ShwR W v v W (List.replicate W 0) := ⟨by simp, by simp⟩
theorem ShwR.step {W v m i : Nat} {l : List UInt8} (h : ShwR W v m (i + 1) l) (hi : i < W) : ShwR W v (m / 10) i (l.set i (UInt8.ofNat (48 + m % 10))) := by
  obtain ⟨h1, h2⟩ := h
  refine ⟨by rw [List.length_set]; exact h1, ?_⟩
  rw [← h2, shw, List.append_assoc]
  congr 1
  have hl : i < (l.set i (UInt8.ofNat (48 + m % 10))).length := by rw [List.length_set]; omega
  rw [List.drop_eq_getElem_cons hl, List.getElem_set_self]
  rw [List.singleton_append]
  congr 1
  exact List.drop_set_of_lt (by omega)
theorem ShwR.fin {W v m : Nat} {l : List UInt8} (h : ShwR W v m 0 l) : l = shw W v := by
  have := h.2
  simpa [shw] using this

set_option maxRecDepth 20000 in
set_option maxHeartbeats 800000 in
theorem c_showNumber (v k : Nat) (w : World) (hk0 : 1 ≤ k) (hk : k ≤ 12) (hv : (v : Int) < ten k) :
    Calls Try.prog 74 #[.int .i64 v, .int .i64 k] w fun e w' => e = .returned (.string (colS k (v : Int))) ∧ Below w.heap.size w w' := by
  have hT := ten_bd (k := k) (by omega)
  have HC : Hid (shw k v = colL k (v : Int)) := shw_small hv
  have hv2 : v ≤ 100000000000000000 := by omega
  clear hv hT
  go_enter Try.func74, Try.ntmps74
  go_wp2_with (at_make; refine mkfull 29 5 Try.underlying29 infoU8 rfl (by decide) rfl _ _ rfl k rfl rfl rfl rfl (by omega) ?_; intro w2 ho2 hB2 hz2)
  have ho2' : w2.ownsRow w.heap.size 5 1 (.slice (some ⟨w.heap.size, 0, none⟩) k k) k ((List.replicate k (0 : UInt8)).map encB) := by rw [List.map_replicate]; exact ho2
  clear ho2 hz2
  go_loopw [0, 6] (fun u i wr => ∃ (m j : Nat) (l : List UInt8) (z : Int), m ≤ 100000000000000000 ∧ u = .int .i64 m ∧ j ≤ k ∧ z = (j : Int) - 1 ∧ i = .int .i64 z ∧ Hid (ShwR k v m j l) ∧ wr.ownsRow w.heap.size 5 1 (.slice (some ⟨w.heap.size, 0, none⟩) k k) k (l.map encB) ∧ Below w.heap.size w wr) (fun _ i _ => (intOf i + 1).toNat)
  case atStart => exact ⟨v, k, List.replicate k 0, _, hv2, rfl, Nat.le_refl _, rfl, by go_num, ShwR.start k v, ho2', hB2⟩
  case round =>
    obtain ⟨m, j, l, z, hm, rfl, hj, hz, rfl, hl, ho, hB⟩ := hrel
    by_cases hp : 0 < j
    · obtain ⟨i, rfl⟩ : ∃ i, j = i + 1 := ⟨j - 1, by omega⟩
      obtain rfl : z = (i : Int) := by omega
      have e1 := World.ownsRow.cellAt ho i (by omega)
      have hil : i < l.length := by rw [hl.out.1]; omega
      rw [List.getElem?_map, List.getElem?_eq_getElem hil, Option.map_some] at e1
      have e2 := World.ownsRow.frozenAt ho i
      have hst := (World.ownsRow.stored ho i (.int .u8 (48 + (m : Int) % 10))).1
      rw [← enc_dig, ← List.map_set, enc_dig] at hst
      have HO : Hid (_ ∧ _ ∧ _) := ⟨hst, hB.setCell (p := ⟨w.heap.size, i, none⟩) (Nat.le_refl _) (.int .u8 (48 + (m : Int) % 10)), hl.out.step (by omega)⟩
      have i2 : (i : Int) < (k : Int) := by omega
      clear ho hst hB hz hl
      go_wp2
      go_roundw
      case rel => exact ⟨m / 10, i, _, _, by omega, by go_num, by omega, rfl, by go_num, HO.out.2.2, HO.out.1, HO.out.2.1⟩
      case measure => simp [intOf]
    · have hz0 : z < 0 := by omega
      obtain rfl : j = 0 := by omega
      have hb := string_back wr w.heap.size k l (holds_of_owns ho)
      rw [hl.out.1] at hb
      have HO : Hid ((⟨l.toArray⟩ : ByteArray) = colS k (v : Int) ∧ Below w.heap.size w wr) := ⟨by rw [hl.out.fin, HC.out]; rfl, hB⟩
      clear ho hB hz hl
      go_wp2
      go_ret
      exact ⟨ret_str HO.out.1, HO.out.2⟩

set_option maxRecDepth 20000 in
set_option maxHeartbeats 800000 in
theorem c_l1ShowX (n : Int) (k : Nat) (w : World) (hk0 : 1 ≤ k) (hk : k ≤ 12) (hn0 : -1000000000000000000 ≤ n) (hn : n ≤ 1000000000000000000) :
    Calls Try.prog 82 #[.int .i64 n, .int .i64 k] w fun e w' => e = .returned (.string (colS k n)) ∧ Below w.heap.size w w' := by
  have hT := ten_bd (k := k) (by omega)
  have HC : Hid (∀ W, Calls Try.prog 96 #[.int .i64 k] W fun e w' => e = .returned (.int .i64 (ten k)) ∧ W = w') := fun W => c_l1Ten k W (by omega)
  have hmb := mod_bds k n
  have HV : Hid (shw k (n % ten k).toNat = colL k n) := rfl
  obtain ⟨r, q1, q2, q3, hfix⟩ := tmod_fix n (ten k) hT.1
  generalize ten k = T at hT HC hmb hfix q1 q2 q3 HV
  obtain ⟨hT1, hT2⟩ := hT
  obtain ⟨m0, hm0⟩ : ∃ m0 : Nat, n % T = m0 := ⟨(n % T).toNat, by omega⟩
  rw [hm0] at hfix hmb HV
  rw [Int.toNat_natCast] at HV
  have hz0 : (T = 0) = False := eq_false (by omega)
  have hz1 : (T == 0) = false := beq_eq_false_iff_ne.2 (by omega)
  have hm1 : m0 ≤ 100000000000000000 := by omega
  have hw0 : IntKind.i64.wrap (r + T) = r + T := IntWalk.i64_in _ (by omega)
  clear hm0 hmb
  go_enter Try.func82, Try.ntmps82
  go_wp2
  go_quiet ((go_at_call 96; exact quiet_left (HC.out _)))
  rename_i nq
  have hw1 : Below w.heap.size w (w.drewN nq) := below_drewN (Below.refl _ _) nq
  have hw2 : (w.drewN nq).heap.size = w.heap.size := rfl
  generalize w.drewN nq = wa at hw1 hw2 ⊢
  clear q1 q2 q3 hfix hz0 hz1 HC hw0
  go_wp2_with (at_make; refine mkfull 29 5 Try.underlying29 infoU8 rfl (by decide) rfl _ _ rfl k rfl rfl rfl rfl (by omega) ?_; intro w2 ho2 hB2 hz2)
  rw [hw2] at ho2
  have hB2' := hw1.trans (hB2.mono (by omega))
  have ho2' : w2.ownsRow w.heap.size 5 1 (.slice (some ⟨w.heap.size, 0, none⟩) k k) k ((List.replicate k (0 : UInt8)).map encB) := by rw [List.map_replicate]; exact ho2
  clear ho2 hB2 hz2
  clear hw1 hw2
  go_loopw [0, 6] (fun u i wr => ∃ (m j : Nat) (l : List UInt8) (z : Int), m ≤ 100000000000000000 ∧ u = .int .i64 m ∧ j ≤ k ∧ z = (j : Int) - 1 ∧ i = .int .i64 z ∧ Hid (ShwR k m0 m j l) ∧ wr.ownsRow w.heap.size 5 1 (.slice (some ⟨w.heap.size, 0, none⟩) k k) k (l.map encB) ∧ Below w.heap.size w wr) (fun _ i _ => (intOf i + 1).toNat)
  case atStart => exact ⟨m0, k, List.replicate k 0, _, hm1, rfl, Nat.le_refl _, rfl, by go_num, ShwR.start k m0, ho2', hB2'⟩
  case round =>
    obtain ⟨m, j, l, z, hm, rfl, hj, hz, rfl, hl, ho, hB⟩ := hrel
    by_cases hp : 0 < j
    · obtain ⟨i, rfl⟩ : ∃ i, j = i + 1 := ⟨j - 1, by omega⟩
      obtain rfl : z = (i : Int) := by omega
      have e1 := World.ownsRow.cellAt ho i (by omega)
      have hil : i < l.length := by rw [hl.out.1]; omega
      rw [List.getElem?_map, List.getElem?_eq_getElem hil, Option.map_some] at e1
      have e2 := World.ownsRow.frozenAt ho i
      have hst := (World.ownsRow.stored ho i (.int .u8 (48 + (m : Int) % 10))).1
      rw [← enc_dig, ← List.map_set, enc_dig] at hst
      have HO : Hid (_ ∧ _ ∧ _) := ⟨hst, hB.setCell (p := ⟨w.heap.size, i, none⟩) (Nat.le_refl _) (.int .u8 (48 + (m : Int) % 10)), hl.out.step (by omega)⟩
      have i2 : (i : Int) < (k : Int) := by omega
      clear ho hst hB hz hl
      go_wp2
      go_roundw
      case rel => exact ⟨m / 10, i, _, _, by omega, by go_num, by omega, rfl, by go_num, HO.out.2.2, HO.out.1, HO.out.2.1⟩
      case measure => simp [intOf]
    · have hz0 : z < 0 := by omega
      obtain rfl : j = 0 := by omega
      have hb := string_back wr w.heap.size k l (holds_of_owns ho)
      rw [hl.out.1] at hb
      have HO : Hid ((⟨l.toArray⟩ : ByteArray) = colS k n ∧ Below w.heap.size w wr) := ⟨by rw [hl.out.fin, HV.out]; rfl, hB⟩
      clear ho hB hz hl
      go_wp2
      go_ret
      exact ⟨ret_str HO.out.1, HO.out.2⟩

/-! ### what a column shows -/
theorem dgB_b {b : UInt8} (h : dgB b = true) : 48 ≤ (b.toNat : Int) ∧ (b.toNat : Int) ≤ 57 := of_decide_eq_true h
theorem cv_part {s : ByteArray} (h : colB s = true) {k : Nat} (hk : k ≤ s.size) : 0 ≤ cv (s.data.toList.take k) ∧ cv (s.data.toList.take k) ≤ 1000000000000 := by
  obtain ⟨h1, h2, h3⟩ := colB_iff h
  have h4 := cv_bd k (s.data.toList.take k) (by rw [List.length_take, size_data]; omega) (List.all_eq_true.2 fun x hx => List.all_eq_true.1 h3 x (List.mem_of_mem_take hx))
  have h5 := ten_mono (show k ≤ 12 by omega)
  have h6 : ten 12 = 1000000000000 := by decide
  omega
theorem cv_whole {s : ByteArray} (h : colB s = true) : 0 ≤ cv s.data.toList ∧ cv s.data.toList < ten s.size := by
  obtain ⟨h1, h2, h3⟩ := colB_iff h
  exact cv_bd s.size s.data.toList (size_data s) h3

set_option maxHeartbeats 400000 in
theorem c_l1Value (s : ByteArray) (w : World) (hs : colB s = true) :
    Calls Try.prog 95 #[.string s] w fun e w' => e = .returned (.int .i64 (cv s.data.toList)) ∧ w = w' := by
  have HS : Hid (colB s = true) := hs
  obtain ⟨h1, h2, h3⟩ := colB_iff hs
  have HD : Hid (s.data.toList.all dgB = true) := h3
  clear hs h3
  go_enter Try.func95, Try.ntmps95
  go_wp2
  go_loop [3, 4] (fun n i => ∃ k : Nat, k ≤ s.size ∧ i = .int .i64 k ∧ n = .int .i64 (cv (s.data.toList.take k))) (fun _ i => s.size - (intOf i).toNat)
  case atStart => exact ⟨0, by omega, rfl, rfl⟩
  case round =>
    obtain ⟨k, hk, rfl, rfl⟩ := hrel
    have hcp := cv_part HS.out hk
    by_cases hlt : k < s.size
    · have hlt' : k < s.data.toList.length := by rw [size_data]; exact hlt
      have HT := cv_take_succ s.data.toList k hlt'
      have he : s.data.toList[k] = s[k] := rfl
      have hb := dgB_b (List.all_eq_true.1 HD.out _ (List.getElem_mem hlt'))
      rw [he] at HT hb
      have HT2 := hidd HT
      clear HT he
      obtain ⟨c, hc⟩ : ∃ c, cv (s.data.toList.take k) = c := ⟨_, rfl⟩
      rw [hc] at hcp HT2 ⊢
      clear hc
      go_wp2
      go_round
      case rel => exact ⟨k + 1, by omega, by go_num, by rw [HT2.out]; go_num⟩
      case measure => simp [intOf]; omega
    · have HO : Hid (cv s.data.toList = cv (s.data.toList.take k)) := by
        show _ = _
        rw [List.take_of_length_le (by rw [size_data]; omega)]
      go_wp2
      go_ret
      exact ⟨ret_int HO.out.symm, rfl⟩
set_option maxHeartbeats 400000 in
theorem c_ValueOf (s : ByteArray) (w : World) (hs : colB s = true) :
    Calls Try.prog 112 #[.string s] w fun e w' => e = .returned (.int .i64 (cv s.data.toList)) ∧ w = w' := by
  have HS : Hid (colB s = true) := hs
  obtain ⟨h1, h2, h3⟩ := colB_iff hs
  have HD : Hid (s.data.toList.all dgB = true) := h3
  have hc := c_impl_ColumnValid s w (by omega)
  rw [hs] at hc
  clear hs h3
  go_enter Try.func112, Try.ntmps112
  go_wp2_with fail
  refine hc.mono ?_
  rintro e w' ⟨rfl, rfl⟩
  clear hc
  go_wp2
  go_loop [3, 10] (fun n i => ∃ k : Nat, k ≤ s.size ∧ i = .int .i64 k ∧ n = .int .i64 (cv (s.data.toList.take k))) (fun _ i => s.size - (intOf i).toNat)
  case atStart => exact ⟨0, by omega, rfl, rfl⟩
  case round =>
    obtain ⟨k, hk, rfl, rfl⟩ := hrel
    have hcp := cv_part HS.out hk
    by_cases hlt : k < s.size
    · have hlt' : k < s.data.toList.length := by rw [size_data]; exact hlt
      have HT := cv_take_succ s.data.toList k hlt'
      have he : s.data.toList[k] = s[k] := rfl
      have hb := dgB_b (List.all_eq_true.1 HD.out _ (List.getElem_mem hlt'))
      rw [he] at HT hb
      have HT2 := hidd HT
      clear HT he
      obtain ⟨c, hc⟩ : ∃ c, cv (s.data.toList.take k) = c := ⟨_, rfl⟩
      rw [hc] at hcp HT2 ⊢
      clear hc
      go_wp2
      go_round
      case rel => exact ⟨k + 1, by omega, by go_num, by rw [HT2.out]⟩
      case measure => simp [intOf]; omega
    · have HO : Hid (cv s.data.toList = cv (s.data.toList.take k)) := by
        show _ = _
        rw [List.take_of_length_le (by rw [size_data]; omega)]
      go_wp2
      go_ret
      exact ⟨ret_int HO.out.symm, rfl⟩
end Go.Proofs.Ythjehjdcpfefcaa
