/- Lemmas and contracts for WholePlan (Eng1 Eng2): plain words on memory, contracts of the functions that the law reaches. No condition but what each states. -/
import Derived.Test.YtdfnclnjnmdboaaGreatDoorMWholePlanEngP
import Derived.Test.YtdfnclnjnmdboaaGreatDoorMWholePlanEnc
import Derived.Test.YtdfnclnjnmdboaaGreatDoorMWholePlanPoly7
import Derived.Deep.QuietTactic
import Derived.BigQuiet
namespace Go.Proofs.YtdfnclnjnmdboaaGreatDoor
set_option linter.unusedVariables false
open Go.RowKit

theorem infoU8 : (Tryz.prog.info? 5).map (fun i => (i.zero, i.size, i.bytes)) = some (some (.int .u8 0), 1, 1) := by kernel_rfl
theorem holds_of_owns {w : World} {base b n cap : Nat} {l : List UInt8} (h : w.ownsRow base 5 1 (.slice (some ⟨b, 0, none⟩) n cap) n (l.map encB)) : Sort.Holds encB w b 0 l.toArray := by
  intro j hj
  have hl : l.length = n := by have := h.1; simpa using this
  have hj' : j < l.length := by simpa using hj
  rw [Nat.zero_add]
  refine ⟨?_, World.ownsRow.frozenAt h j⟩
  have := World.ownsRow.cellAt h j (by omega)
  rw [this, List.getElem?_map, List.getElem?_eq_getElem hj']
  simp [hj']
theorem enc_dig (m : Nat) : encB (UInt8.ofNat (48 + m % 10)) = .int .u8 (48 + (m : Int) % 10) := by
  unfold encB
  congr 1
  rw [UInt8.toNat_ofNat']
  omega
theorem tmod_fix (n T : Int) (hT : 1 ≤ T) : ∃ r, n.tmod T = r ∧ -T < r ∧ r < T ∧ (r + T).tmod T = n % T := by
  have h0 := Int.emod_lt_of_pos n (b := T) (by omega)
  have hb := Int.emod_nonneg n (b := T) (by omega)
  rcases tmod_cases n T hT with ⟨h1, h2, h3⟩ | ⟨h1, h2, h3⟩
  · refine ⟨n.tmod T, rfl, by omega, h3, ?_⟩
    rw [Int.tmod_eq_emod_of_nonneg (by omega), Int.add_emod_right, h2, Int.emod_emod_of_dvd _ (Int.dvd_refl _)]
  · refine ⟨n.tmod T, rfl, h3, by omega, ?_⟩
    rw [h2, Int.tmod_eq_emod_of_nonneg hb, Int.emod_emod_of_dvd _ (Int.dvd_refl _)]

/-- the digits are written from the last one on -/
def ShwR (W v m j : Nat) (l : List UInt8) : Prop := l.length = W ∧ shw j m ++ l.drop j = shw W v
theorem ShwR.start (W v : Nat) : ShwR W v v W (List.replicate W 0) := ⟨by simp, by simp⟩
theorem ShwR.step {W v m i : Nat} {l : List UInt8} (h : ShwR W v m (i + 1) l) (hi : i < W) : ShwR W v (m / 10) i (l.set i (UInt8.ofNat (48 + m % 10))) := by
  obtain ⟨h1, h2⟩ := h
  refine ⟨by rw [List.length_set]; exact h1, ?_⟩
  rw [← h2, shw, List.append_assoc]
  congr 1
  have hl : i < (l.set i (UInt8.ofNat (48 + m % 10))).length := by rw [List.length_set]; omega
  rw [List.drop_eq_getElem_cons hl, List.getElem_set_self]
  rw [List.singleton_append]
  congr 1
  exact List.drop_set_of_lt (by omega)
theorem ShwR.fin {W v m : Nat} {l : List UInt8} (h : ShwR W v m 0 l) : l = shw W v := by
  have := h.2
  simpa [shw] using this

set_option maxRecDepth 20000 in
set_option maxHeartbeats 800000 in
theorem c_showNumber (v k : Nat) (w : World) (hk0 : 1 ≤ k) (hk : k ≤ 12) (hv : (v : Int) < ten k) :
    Calls Tryz.prog 114 #[.int .i64 v, .int .i64 k] w fun e w' => e = .returned (.string (colS k (v : Int))) ∧ Below w.heap.size w w' := by
  have hT := ten_bd (k := k) (by omega)
  have HC : Hid (shw k v = colL k (v : Int)) := shw_small hv
  have hv2 : v ≤ 100000000000000000 := by omega
  clear hv hT
  go_enter Tryz.func114, Tryz.ntmps114
  go_wp2_with (at_make; refine mkfull 22 5 Tryz.underlying22 infoU8 rfl (by decide) rfl _ _ rfl k rfl rfl rfl rfl (by omega) ?_; intro w2 ho2 hB2 hz2)
  have ho2' : w2.ownsRow w.heap.size 5 1 (.slice (some ⟨w.heap.size, 0, none⟩) k k) k ((List.replicate k (0 : UInt8)).map encB) := by rw [List.map_replicate]; exact ho2
  clear ho2 hz2
  go_loopw [0, 6] (fun u i wr => ∃ (m j : Nat) (l : List UInt8) (z : Int), m ≤ 100000000000000000 ∧ u = .int .i64 m ∧ j ≤ k ∧ z = (j : Int) - 1 ∧ i = .int .i64 z ∧ Hid (ShwR k v m j l) ∧ wr.ownsRow w.heap.size 5 1 (.slice (some ⟨w.heap.size, 0, none⟩) k k) k (l.map encB) ∧ Below w.heap.size w wr) (fun _ i _ => (intOf i + 1).toNat)
  case atStart => exact ⟨v, k, List.replicate k 0, _, hv2, rfl, Nat.le_refl _, rfl, by go_num, ShwR.start k v, ho2', hB2⟩
  case round =>
    obtain ⟨m, j, l, z, hm, rfl, hj, hz, rfl, hl, ho, hB⟩ := hrel
    by_cases hp : 0 < j
    · obtain ⟨i, rfl⟩ : ∃ i, j = i + 1 := ⟨j - 1, by omega⟩
      obtain rfl : z = (i : Int) := by omega
      have e1 := World.ownsRow.cellAt ho i (by omega)
      have hil : i < l.length := by rw [hl.out.1]; omega
      rw [List.getElem?_map, List.getElem?_eq_getElem hil, Option.map_some] at e1
      have e2 := World.ownsRow.frozenAt ho i
      have hst := (World.ownsRow.stored ho i (.int .u8 (48 + (m : Int) % 10))).1
      rw [← enc_dig, ← List.map_set, enc_dig] at hst
      have HO : Hid (_ ∧ _ ∧ _) := ⟨hst, hB.setCell (p := ⟨w.heap.size, i, none⟩) (Nat.le_refl _) (.int .u8 (48 + (m : Int) % 10)), hl.out.step (by omega)⟩
      have i2 : (i : Int) < (k : Int) := by omega
      clear ho hst hB hz hl
      go_wp2
      go_roundw
      case rel => exact ⟨m / 10, i, _, _, by omega, by go_num, by omega, rfl, by go_num, HO.out.2.2, HO.out.1, HO.out.2.1⟩
      case measure => simp [intOf]
    · have hz0 : z < 0 := by omega
      obtain rfl : j = 0 := by omega
      have hb := string_back wr w.heap.size k l (holds_of_owns ho)
      rw [hl.out.1] at hb
      have HO : Hid ((⟨l.toArray⟩ : ByteArray) = colS k (v : Int) ∧ Below w.heap.size w wr) := ⟨by rw [hl.out.fin, HC.out]; rfl, hB⟩
      clear ho hB hz hl
      go_wp2
      go_ret
      exact ⟨ret_str HO.out.1, HO.out.2⟩

theorem dgB_b {b : UInt8} (h : dgB b = true) : 48 ≤ (b.toNat : Int) ∧ (b.toNat : Int) ≤ 57 := of_decide_eq_true h
theorem cv_part {s : ByteArray} (h : colB s = true) {k : Nat} (hk : k ≤ s.size) : 0 ≤ cv (s.data.toList.take k) ∧ cv (s.data.toList.take k) ≤ 1000000000000 := by
  obtain ⟨h1, h2, h3⟩ := colB_iff h
  have h4 := cv_bd k (s.data.toList.take k) (by rw [List.length_take, size_data]; omega) (List.all_eq_true.2 fun x hx => List.all_eq_true.1 h3 x (List.mem_of_mem_take hx))
  have h5 := ten_mono (show k ≤ 12 by omega)
  have h6 : ten 12 = 1000000000000 := by decide
  omega
theorem cv_whole {s : ByteArray} (h : colB s = true) : 0 ≤ cv s.data.toList ∧ cv s.data.toList < ten s.size := by
  obtain ⟨h1, h2, h3⟩ := colB_iff h
  exact cv_bd s.size s.data.toList (size_data s) h3

set_option maxHeartbeats 400000 in
theorem c_ValueOf (s : ByteArray) (w : World) (hs : colB s = true) :
    Calls Tryz.prog 164 #[.string s] w fun e w' => e = .returned (.int .i64 (cv s.data.toList)) ∧ w = w' := by
  have HS : Hid (colB s = true) := hs
  obtain ⟨h1, h2, h3⟩ := colB_iff hs
  have HD : Hid (s.data.toList.all dgB = true) := h3
  have hc := c_impl_ColumnValid s w (by omega)
  rw [hs] at hc
  clear hs h3
  go_enter Tryz.func164, Tryz.ntmps164
  go_wp2_with fail
  refine hc.mono ?_
  rintro e w' ⟨rfl, rfl⟩
  clear hc
  go_wp2
  go_loop [3, 10] (fun n i => ∃ k : Nat, k ≤ s.size ∧ i = .int .i64 k ∧ n = .int .i64 (cv (s.data.toList.take k))) (fun _ i => s.size - (intOf i).toNat)
  case atStart => exact ⟨0, by omega, rfl, rfl⟩
  case round =>
    obtain ⟨k, hk, rfl, rfl⟩ := hrel
    have hcp := cv_part HS.out hk
    by_cases hlt : k < s.size
    · have hlt' : k < s.data.toList.length := by rw [size_data]; exact hlt
      have HT := cv_take_succ s.data.toList k hlt'
      have he : s.data.toList[k] = s[k] := rfl
      have hb := dgB_b (List.all_eq_true.1 HD.out _ (List.getElem_mem hlt'))
      rw [he] at HT hb
      have HT2 := hidd HT
      clear HT he
      obtain ⟨c, hc⟩ : ∃ c, cv (s.data.toList.take k) = c := ⟨_, rfl⟩
      rw [hc] at hcp HT2 ⊢
      clear hc
      go_wp2
      go_round
      case rel => exact ⟨k + 1, by omega, by go_num, by rw [HT2.out]⟩
      case measure => simp [intOf]; omega
    · have HO : Hid (cv s.data.toList = cv (s.data.toList.take k)) := by
        show _ = _
        rw [List.take_of_length_le (by rw [size_data]; omega)]
      go_wp2
      go_ret
      exact ⟨ret_int HO.out.symm, rfl⟩
end Go.Proofs.YtdfnclnjnmdboaaGreatDoor

namespace Go.Proofs.YtdfnclnjnmdboaaGreatDoor
set_option linter.unusedVariables false
open Go.RowKit

theorem colS_bd {k : Nat} (v : Int) (hk : k ≤ 12) : (colS k v).size ≤ 9223372036854775807 := by rw [colS_size]; omega
theorem c_ValueOfC (k : Nat) (v : Int) (w : World) (h1 : 1 ≤ k) (h2 : k ≤ 12) :
    Calls Tryz.prog 164 #[.string (colS k v)] w fun e w' => e = .returned (.int .i64 (v % ten k)) ∧ w = w' := by
  have h := c_ValueOf (colS k v) w (colB_colS v h1 h2)
  rwa [colS_list, cv_colL] at h
theorem c_ColumnValidC (k : Nat) (v : Int) (w : World) (h1 : 1 ≤ k) (h2 : k ≤ 12) :
    Calls Tryz.prog 163 #[.string (colS k v)] w fun e w' => e = .returned (.bool true) ∧ w = w' := by
  have h := c_impl_ColumnValid (colS k v) w (colS_bd v h2)
  rwa [colB_colS v h1 h2] at h
theorem c_alikeC (k : Nat) (a b : Int) (w : World) (h1 : 1 ≤ k) (h2 : k ≤ 12) :
    Calls Tryz.prog 145 #[.string (colS k a), .string (colS k b)] w fun e w' => e = .returned (.bool true) ∧ w = w' := by
  have h := c_alike (colS k a) (colS k b) w (colS_bd a h2) (colS_bd b h2)
  have e : alikeB (colS k a) (colS k b) = true := by
    unfold alikeB
    rw [colB_colS a h1 h2, colB_colS b h1 h2, colS_size, colS_size]
    simp
  rwa [e] at h

set_option maxRecDepth 20000 in
set_option maxHeartbeats 400000 in
theorem c_SignedOf (k : Nat) (v : Int) (w : World) (h1 : 1 ≤ k) (h2 : k ≤ 12) :
    Calls Tryz.prog 146 #[.string (colS k v)] w fun e w' => e = .returned (.tuple #[.int .i64 (sg k v), .bool true]) ∧ w = w' := by
  have hT := ten_bd (k := k) (by omega)
  have hm := mod_bds k v
  have HC := hidd (c_ColumnValidC k v w h1 h2)
  have HP := hidd (c_powerOfTen k w (by omega))
  have HV := hidd (c_ValueOfC k v w h1 h2)
  have HS : Hid (sg k v = if ten k / 2 ≤ v % ten k then v % ten k - ten k else v % ten k) := rfl
  have hsz : ((colS k v).size : Int) = (k : Int) := by rw [colS_size]
  obtain ⟨s, hs⟩ : ∃ s, colS k v = s := ⟨_, rfl⟩
  rw [hs] at HC HV hsz ⊢
  obtain ⟨T, hT'⟩ : ∃ T, ten k = T := ⟨_, rfl⟩
  obtain ⟨m, hm'⟩ : ∃ m, v % ten k = m := ⟨_, rfl⟩
  rw [hm'] at hm HV HS
  rw [hT'] at hT hm HP HS
  clear hs hT' hm'
  by_cases hc : T / 2 ≤ m
  · have HE : Hid (sg k v = m - T) := by show _ = _; rw [HS.out, if_pos hc]
    go_enter Tryz.func146, Tryz.ntmps146
    go_wp2_with fail
    refine HC.out.mono ?_
    rintro e w' ⟨rfl, rfl⟩
    go_wp2_with fail
    refine HP.out.mono ?_
    rintro e w' ⟨rfl, rfl⟩
    go_wp2_with fail
    refine HV.out.mono ?_
    rintro e w' ⟨rfl, rfl⟩
    go_wp2
    go_ret2
    exact ⟨by rw [HE.out]; rfl, rfl⟩
  · have HE : Hid (sg k v = m) := by show _ = _; rw [HS.out, if_neg hc]
    go_enter Tryz.func146, Tryz.ntmps146
    go_wp2_with fail
    refine HC.out.mono ?_
    rintro e w' ⟨rfl, rfl⟩
    go_wp2_with fail
    refine HP.out.mono ?_
    rintro e w' ⟨rfl, rfl⟩
    go_wp2_with fail
    refine HV.out.mono ?_
    rintro e w' ⟨rfl, rfl⟩
    go_wp2
    go_ret2
    exact ⟨by rw [HE.out]; rfl, rfl⟩
theorem c_signed (k : Nat) (v : Int) (w : World) (h1 : 1 ≤ k) (h2 : k ≤ 12) :
    Calls Tryz.prog 117 #[.string (colS k v)] w fun e w' => e = .returned (.int .i64 (sg k v)) ∧ w = w' := by
  have HC := hidd (c_SignedOf k v w h1 h2)
  go_enter Tryz.func117, Tryz.ntmps117
  go_wp2_with fail
  refine HC.out.mono ?_
  rintro e w' ⟨rfl, rfl⟩
  go_wp2
  go_ret
  exact ⟨rfl, rfl⟩

theorem half_neg {T : Int} (h : T = 2 * (T / 2)) (h0 : 0 ≤ T) : (-T).tdiv 2 = -(T / 2) := by
  rw [Int.neg_tdiv, Int.tdiv_eq_ediv_of_nonneg h0]
def ColR (k : Nat) (n : Int) (w : World) (e : Ending) (w' : World) : Prop := e = .returned (.tuple #[.string (colS k n), .bool true]) ∧ Below w.heap.size w w'
def ColN (w : World) (e : Ending) (w' : World) : Prop := e = .returned (.tuple #[.string ⟨#[]⟩, .bool false]) ∧ Below w.heap.size w w'
set_option maxRecDepth 20000 in
set_option maxHeartbeats 400000 in
theorem c_ColumnOf_t (n : Int) (k : Nat) (w : World) (h1 : 1 ≤ k) (h2 : k ≤ 12) (hf : fitB n k = true) :
    Calls Tryz.prog 88 #[(.int .i64 (n)), (.int .i64 ((k : Int)))] w (ColR k n w) := by
  obtain ⟨f1, f2⟩ := fitB_iff.1 hf
  obtain ⟨t1, t2⟩ := ten_even h1
  have hT := ten_bd (k := k) (by omega)
  have hm := mod_bds k n
  have HW : Hid (Calls Tryz.prog 112 #[(.int .i64 ((k : Int)))] w fun e w' => e = .returned (.bool true) ∧ w = w') := by
    have h := c_widthValid (k : Int) w
    rwa [inB_t (by omega) (by omega)] at h
  have HP := hidd (c_powerOfTen k w (by omega))
  have HM := hidd (c_modulo n (ten k) w hT.1 hT.2)
  have hq := half_neg t1 (by omega)
  obtain ⟨m, hmm⟩ : ∃ m : Nat, n % ten k = m := ⟨(n % ten k).toNat, by omega⟩
  have HSh : Hid (Calls Tryz.prog 114 #[.int .i64 m, .int .i64 k] w fun e w' => e = .returned (.string (colS k n)) ∧ Below w.heap.size w w') := by
    have h := c_showNumber m k w h1 h2 (by omega)
    rw [← hmm, colS_emod] at h
    rw [← hmm]
    exact h
  rw [hmm] at HM
  obtain ⟨T, hT'⟩ : ∃ T, ten k = T := ⟨_, rfl⟩
  rw [hT'] at hT HP HM hq f1 f2
  clear hmm hT' t1 t2 hm hf
  go_enter Tryz.func88, Tryz.ntmps88
  go_wp2_with fail
  refine HW.out.mono ?_
  rintro e w' ⟨rfl, rfl⟩
  go_wp2_with fail
  refine HP.out.mono ?_
  rintro e w' ⟨rfl, rfl⟩
  go_wp2_with fail
  refine HM.out.mono ?_
  rintro e w' ⟨rfl, rfl⟩
  go_wp2_with fail
  refine HSh.out.mono ?_
  rintro e w' ⟨rfl, hB⟩
  go_wp2
  go_ret2
  exact ⟨rfl, hB⟩
set_option maxRecDepth 20000 in
set_option maxHeartbeats 400000 in
theorem c_ColumnOf_f (n : Int) (k : Nat) (w : World) (h1 : 1 ≤ k) (h2 : k ≤ 12) (hf : fitB n k = false) :
    Calls Tryz.prog 88 #[(.int .i64 (n)), (.int .i64 ((k : Int)))] w (ColN w) := by
  have hff : ¬ (-(ten k / 2) ≤ n ∧ n < ten k / 2) := fun h => by rw [fitB_iff.2 h] at hf; cases hf
  obtain ⟨t1, t2⟩ := ten_even h1
  have hT := ten_bd (k := k) (by omega)
  have HW : Hid (Calls Tryz.prog 112 #[(.int .i64 ((k : Int)))] w fun e w' => e = .returned (.bool true) ∧ w = w') := by
    have h := c_widthValid (k : Int) w
    rwa [inB_t (by omega) (by omega)] at h
  have HP := hidd (c_powerOfTen k w (by omega))
  have hq := half_neg t1 (by omega)
  obtain ⟨T, hT'⟩ : ∃ T, ten k = T := ⟨_, rfl⟩
  rw [hT'] at hT HP hq hff
  clear hT' t1 t2 hf
  by_cases hl : n < -(T / 2)
  all_goals
    have HF : Hid (¬ (-(T / 2) ≤ n ∧ n < T / 2)) := hff
    have hg : T / 2 ≤ n ∨ n < -(T / 2) := by omega
    clear hff
    rcases hg with hg | hg
    all_goals
      go_enter Tryz.func88, Tryz.ntmps88
      go_wp2_with fail
      refine HW.out.mono ?_
      rintro e w' ⟨rfl, rfl⟩
      go_wp2_with fail
      refine HP.out.mono ?_
      rintro e w' ⟨rfl, rfl⟩
      go_wp2
      go_ret2
      exact ⟨rfl, Below.refl _ _⟩
set_option maxRecDepth 20000 in
set_option maxHeartbeats 400000 in
theorem c_ColumnOf_w (n k : Int) (w : World) (h : inB k 1 12 = false) :
    Calls Tryz.prog 88 #[(.int .i64 (n)), (.int .i64 (k))] w (ColN w) := by
  have HW := c_widthValid k w
  rw [h] at HW
  have HW := hidd HW
  clear h
  go_enter Tryz.func88, Tryz.ntmps88
  go_wp2_with fail
  refine HW.out.mono ?_
  rintro e w' ⟨rfl, rfl⟩
  go_wp2
  go_ret2
  exact ⟨rfl, Below.refl _ _⟩

set_option maxRecDepth 20000 in
set_option maxHeartbeats 400000 in
theorem c_AddColumns (k : Nat) (a b : Int) (w : World) (h1 : 1 ≤ k) (h2 : k ≤ 12) :
    Calls Tryz.prog 148 #[.string (colS k a), .string (colS k b)] w (ColR k (a + b) w) := by
  have hT := ten_bd (k := k) (by omega)
  have ha := mod_bds k a
  have hb := mod_bds k b
  have HA := hidd (c_alikeC k a b w h1 h2)
  have HV1 := hidd (c_ValueOfC k a w h1 h2)
  have HV2 := hidd (c_ValueOfC k b w h1 h2)
  have HP := hidd (c_powerOfTen k w (by omega))
  have HM := hidd (c_modulo (a % ten k + b % ten k) (ten k) w hT.1 hT.2)
  have hm := mod_bds k (a % ten k + b % ten k)
  obtain ⟨m, hmm⟩ : ∃ m : Nat, (a % ten k + b % ten k) % ten k = m := ⟨((a % ten k + b % ten k) % ten k).toNat, by omega⟩
  have HSh : Hid (Calls Tryz.prog 114 #[.int .i64 m, .int .i64 k] w fun e w' => e = .returned (.string (colS k (a + b))) ∧ Below w.heap.size w w') := by
    have h := c_showNumber m k w h1 h2 (by omega)
    rw [← hmm, colS_emod, colS_add] at h
    rw [← hmm]
    exact h
  rw [hmm] at HM
  have hsz : ((colS k a).size : Int) = (k : Int) := by rw [colS_size]
  obtain ⟨s, hs⟩ : ∃ s, colS k a = s := ⟨_, rfl⟩
  obtain ⟨t, ht⟩ : ∃ t, colS k b = t := ⟨_, rfl⟩
  rw [hs] at HA HV1 hsz ⊢
  rw [ht] at HA HV2 ⊢
  obtain ⟨x, hx⟩ : ∃ x, a % ten k = x := ⟨_, rfl⟩
  obtain ⟨y, hy⟩ : ∃ y, b % ten k = y := ⟨_, rfl⟩
  rw [hx] at ha HV1 HM
  rw [hy] at hb HV2 HM
  obtain ⟨T, hT'⟩ : ∃ T, ten k = T := ⟨_, rfl⟩
  rw [hT'] at hT HP HM ha hb
  clear hmm hT' hm hx hy hs ht
  go_enter Tryz.func148, Tryz.ntmps148
  go_wp2_with fail
  refine HA.out.mono ?_
  rintro e w' ⟨rfl, rfl⟩
  go_wp2_with fail
  refine HV1.out.mono ?_
  rintro e w' ⟨rfl, rfl⟩
  go_wp2_with fail
  refine HV2.out.mono ?_
  rintro e w' ⟨rfl, rfl⟩
  go_wp2_with fail
  refine HP.out.mono ?_
  rintro e w' ⟨rfl, rfl⟩
  go_wp2_with fail
  refine HM.out.mono ?_
  rintro e w' ⟨rfl, rfl⟩
  go_wp2_with fail
  refine HSh.out.mono ?_
  rintro e w' ⟨rfl, hB⟩
  go_wp2
  go_ret2
  exact ⟨rfl, hB⟩
end Go.Proofs.YtdfnclnjnmdboaaGreatDoor
