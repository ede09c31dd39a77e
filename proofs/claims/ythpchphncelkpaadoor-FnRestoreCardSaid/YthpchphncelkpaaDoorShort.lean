/- Contracts: a shortened column, in the reference. -/
import Derived.Test.YthpchphncelkpaaDoorCols
import Derived.Test.YthpchphncelkpaaDoorMany
import Derived.WalkSpells
namespace Go.Proofs.YthpchphncelkpaaDoor
set_option linter.unusedVariables false
open Go.RowKit

/-- how many bytes two strings share at their beginnings, but at most all but the first one's last -/
def shL : List UInt8 → List UInt8 → Nat
  | a :: a2 :: l, b :: bs => if a = b then 1 + shL (a2 :: l) bs else 0
  | _, _ => 0
theorem shL_stop {a b : List UInt8} (h : a.length ≤ 1) : shL a b = 0 := by
  match a, h with
  | [], _ => simp [shL]
  | [x], _ => simp [shL]
  | x :: y :: l, h => simp at h
theorem shL_le (a b : List UInt8) : shL a b ≤ a.length - 1 := by
  induction a generalizing b with
  | nil => simp [shL]
  | cons x a ih =>
    match a, b with
    | [], _ => simp [shL]
    | y :: l, [] => simp [shL]
    | y :: l, z :: b =>
      rw [shL]
      split
      · have := ih b; simp at this ⊢; omega
      · omega
theorem shL_drop {a b : List UInt8} {n : Nat} (h1 : n + 1 < a.length) (h2 : n < b.length) (he : a[n]'(by omega) = b[n]) : shL (a.drop n) (b.drop n) = 1 + shL (a.drop (n + 1)) (b.drop (n + 1)) := by
  rw [List.drop_eq_getElem_cons (by omega : n < a.length), List.drop_eq_getElem_cons h2, List.drop_eq_getElem_cons h1, shL, if_pos he]
theorem shL_drop_ne {a b : List UInt8} {n : Nat} (h1 : n + 1 < a.length) (h2 : n < b.length) (he : a[n]'(by omega) ≠ b[n]) : shL (a.drop n) (b.drop n) = 0 := by
  rw [List.drop_eq_getElem_cons (by omega : n < a.length), List.drop_eq_getElem_cons h2, List.drop_eq_getElem_cons h1, shL, if_neg he]

/-- all are columns of the first one's width -/
def colsB (xs : List ByteArray) : Bool := decide (xs.length ≤ 60) && xs.all fun s => colB s && decide (s.size = (xs.getD 0 noS).size)
def shoN (xs : List ByteArray) (i : Nat) : Nat := if i = 0 then 0 else shL (xs.getD i noS).data.toList (xs.getD (i - 1) noS).data.toList
def shoL (n : Nat) (s : ByteArray) : List UInt8 := List.replicate n 32 ++ s.data.toList.drop n
def shoE (xs : List ByteArray) (i : Nat) : ByteArray := ⟨(shoL (shoN xs i) (xs.getD i noS)).toArray⟩
theorem shoE_is (xs : List ByteArray) (i : Nat) : IsS (shoE xs i) (shoL (shoN xs i) (xs.getD i noS)) := IsS.mk _
def shorF (xs : List ByteArray) : List ByteArray := if colsB xs = true then (List.range xs.length).map (shoE xs) else []
theorem colsB_iff {xs : List ByteArray} (h : colsB xs = true) : xs.length ≤ 60 ∧ ∀ s ∈ xs, colB s = true ∧ s.size = (xs.getD 0 noS).size := by
  unfold colsB at h
  simp only [Bool.and_eq_true, decide_eq_true_eq, List.all_eq_true] at h
  exact h
theorem shorF_len (xs : List ByteArray) : (shorF xs).length ≤ 60 := by
  unfold shorF
  split
  · rename_i h; rw [List.length_map, List.length_range]; exact (colsB_iff h).1
  · simp

set_option maxHeartbeats 400000 in
theorem c_l6Shared (a b : ByteArray) (w : World) (ha : a.size ≤ b.size) (hb : b.size ≤ 1099511627776) :
    Calls Tryd.prog 54 #[.string a, .string b] w fun e w' => e = .returned (.int .i64 (shL a.data.toList b.data.toList : Nat)) ∧ Below w.heap.size w w' := by
  go_enter Tryd.func54, Tryd.ntmps54
  go_wp2
  go_loopw [5] (fun i wr => ∃ n : Nat, n ≤ a.size ∧ i = .int .i64 n ∧ n + shL (a.data.toList.drop n) (b.data.toList.drop n) = shL a.data.toList b.data.toList ∧ Below w.heap.size w wr) (fun i _ => a.size - (intOf i).toNat)
  case atStart => exact ⟨0, by omega, rfl, by simp, Below.refl _ _⟩
  case round =>
    obtain ⟨n, hn, rfl, hs, hB⟩ := hrel
    have HS : Hid _ := hs
    clear hs
    by_cases hlt : n + 1 < a.size
    · have l1 : n + 1 < a.data.toList.length := by rw [size_data]; exact hlt
      have l2 : n < b.data.toList.length := by rw [size_data]; omega
      have ea : a.data.toList[n]'(by omega) = a[n] := rfl
      have eb : b.data.toList[n] = b[n] := rfl
      have i1 : (0 : Int) ≤ (n : Int) := by omega
      have i2 : (n : Int) < (a.size : Int) := by omega
      have i3 : (n : Int) < (b.size : Int) := by omega
      have g1 : (n : Int) < (a.size : Int) - 1 := by omega
      have hw : IntKind.i64.wrap ((a.size : Int) - 1) = (a.size : Int) - 1 := IntWalk.i64_in _ (by omega)
      by_cases he : a[n] = b[n]
      · have HN : Hid (n + 1 + shL (a.data.toList.drop (n + 1)) (b.data.toList.drop (n + 1)) = shL a.data.toList b.data.toList) := by
          have h := shL_drop l1 l2 (by rw [ea, eb]; exact he)
          have h2 := HS.out
          rw [h] at h2
          show _ = _
          omega
        have et : ((a[n].toNat : Int) == (b[n].toNat : Int)) = true := by rw [he]; exact beq_self_eq_true _
        clear he ea eb
        go_wp2
        go_quiet (fail)
        go_wp2
        go_roundw
        case rel => exact ⟨n + 1, by omega, by go_num, HN.out, below_drewN hB _⟩
        case measure => simp [intOf]; omega
      · have HN : Hid (shL a.data.toList b.data.toList = n) := by
          have h := shL_drop_ne l1 l2 (by rw [ea, eb]; exact he)
          have h2 := HS.out
          rw [h] at h2
          show _ = _
          omega
        have et : ((a[n].toNat : Int) == (b[n].toNat : Int)) = false := beq_eq_false_iff_ne.2 (fun q => he (UInt8.toNat_inj.1 (by omega)))
        clear he ea eb
        go_wp2
        go_quiet (fail)
        go_wp2
        go_ret
        exact ⟨by rw [HN.out]; rfl, below_drewN hB _⟩
    · have HN : Hid (shL a.data.toList b.data.toList = n) := by
        have h := shL_stop (a := a.data.toList.drop n) (b := b.data.toList.drop n) (by rw [List.length_drop, size_data]; omega)
        have h2 := HS.out
        rw [h] at h2
        show _ = _
        omega
      have hw : IntKind.i64.wrap ((a.size : Int) - 1) = (a.size : Int) - 1 := IntWalk.i64_in _ (by omega)
      have g1 : decide ((n : Int) < (a.size : Int) - 1) = false := decide_eq_false (by omega)
      go_wp2
      go_quiet (fail)
      go_wp2
      go_ret
      exact ⟨by rw [HN.out]; rfl, below_drewN hB _⟩

theorem quiet_left {P : Program} {f : FuncId} {args : Array Value} {w : World} {n : Nat} {v : Value}
    (h : Calls P f args (w.drewN n) fun e w' => e = .returned v ∧ w.drewN n = w') : Calls P f args (w.drewN n) fun e w'' => e = .returned v ∧ ∃ m, w'' = w.drewN m :=
  h.mono fun _ _ ⟨he, hm⟩ => ⟨he, n, hm.symm⟩
set_option maxHeartbeats 800000 in
theorem c_l6Digits (v : Value) (xs : List ByteArray) (w : World) (ha : RdS w v xs) (hx : xs.length ≤ 9223372036854775807) (hs : ∀ s ∈ xs, s.size ≤ 9223372036854775807) :
    Calls Tryd.prog 53 #[v] w fun e w' => e = .returned (.bool (colsB xs)) ∧ Below w.heap.size w w' := by
  have ha0 := ha
  obtain ⟨a, cap, rfl, ha1⟩ := ha0
  clear ha1
  simp only [List.length_map] at ha ⊢
  have HQ : Hid (∀ s, (colB s && decide (s.size = (xs.getD 0 noS).size)) = (colB s && decide (s.size = (xs.getD 0 noS).size))) := fun _ => rfl
  go_enter Tryd.func53, Tryd.ntmps53
  go_wp2
  go_loopw [3] (fun i wr => ∃ k : Nat, k ≤ xs.length ∧ i = .int .i64 k ∧ ((xs.take k).all fun s => colB s && decide (s.size = (xs.getD 0 noS).size)) = true ∧ Below w.heap.size w wr) (fun i _ => xs.length - (intOf i).toNat)
  case atStart => exact ⟨0, by omega, rfl, rfl, Below.refl _ _⟩
  case round =>
    obtain ⟨k, hk, rfl, hall, hB⟩ := hrel
    have HA : Hid _ := hall
    clear hall
    by_cases hlt : k < xs.length
    · obtain ⟨b1, o1, rfl, hb1, e1⟩ := RdS_cell ha hB hlt
      obtain ⟨b2, o2, he2, hb2, e2⟩ := RdS_cell ha hB (show 0 < xs.length by omega)
      simp only [Option.some.injEq, Addr.mk.injEq] at he2
      obtain ⟨rfl, rfl, _⟩ := he2
      have hz1 : (xs.getD k noS).size ≤ 9223372036854775807 := hs _ (by simp [List.getD, hlt])
      have hz2 : (xs.getD 0 noS).size ≤ 9223372036854775807 := hs _ (by simp [List.getD, show 0 < xs.length by omega])
      have ht := all_take_succ' (fun s => colB s && decide (s.size = (xs.getD 0 noS).size)) xs k hlt
      have hfa : (colB xs[k] && decide (xs[k].size = (xs.getD 0 noS).size)) = false → colsB xs = false := fun h => by
        unfold colsB; rw [all_false_at' hlt h]; simp
      have hg : xs.getD k noS = xs[k] := by simp [List.getD, hlt]
      rw [hg] at e1 hz1
      obtain ⟨y, hy⟩ : ∃ y, xs[k] = y := ⟨_, rfl⟩
      rw [hy] at e1 hz1 ht hfa
      have HT : Hid ((colB y && decide (y.size = (xs.getD 0 noS).size)) = true → ((xs.take (k + 1)).all fun s => colB s && decide (s.size = (xs.getD 0 noS).size)) = true) := fun h => by rw [ht, HA.out, h]; rfl
      have HF : Hid _ := hfa
      obtain ⟨z, hz⟩ : ∃ z, xs.getD 0 noS = z := ⟨_, rfl⟩
      rw [hz] at e2 hz2 HT HF
      have HZ : Hid (xs.getD 0 noS = z) := hz
      have i1 : (0 : Int) ≤ (k : Int) := by omega
      have i2 : (k : Int) < (xs.length : Int) := by omega
      have i3 : (0 : Int) < (xs.length : Int) := by omega
      simp only [Nat.add_zero] at e2
      clear ht hfa hg hy hz ha hs
      cases hv : colB y
      · have HR : Hid (colsB xs = false) := HF.out (by rw [hv]; rfl)
        have HV : Hid (∀ W, Calls Tryd.prog 95 #[.string y] W fun e w' => e = .returned (.bool false) ∧ W = w') := fun W => by have h := c_spec_ColumnValid y W hz1; rwa [hv] at h
        clear hv
        go_wp2
        go_quiet ((go_at_call 95; exact quiet_left (HV.out _)))
        go_wp2
        go_ret
        exact ⟨by rw [HR.out]; rfl, below_drewN hB _⟩
      · have HV : Hid (∀ W, Calls Tryd.prog 95 #[.string y] W fun e w' => e = .returned (.bool true) ∧ W = w') := fun W => by have h := c_spec_ColumnValid y W hz1; rwa [hv] at h
        by_cases h3 : y.size = z.size
        · have HN : Hid _ := HT.out (by rw [hv, decide_eq_true h3]; rfl)
          have e3 : ((y.size : Int) == (z.size : Int)) = true := beq_iff_eq.2 (by omega)
          have e4 : ((y.size : Int) != (z.size : Int)) = false := by simp; omega
          clear hv h3
          go_wp2
          go_quiet ((go_at_call 95; exact quiet_left (HV.out _)))
          go_wp2
          go_roundw
          case rel => exact ⟨k + 1, by omega, by go_num, by rw [HZ.out]; exact HN.out, below_drewN hB _⟩
          case measure => simp [intOf]; omega
        · have HR : Hid (colsB xs = false) := HF.out (by rw [hv, decide_eq_false h3]; rfl)
          have e3 : ((y.size : Int) == (z.size : Int)) = false := beq_eq_false_iff_ne.2 (by omega)
          have e4 : ((y.size : Int) != (z.size : Int)) = true := by simp; omega
          clear hv h3
          go_wp2
          go_quiet ((go_at_call 95; exact quiet_left (HV.out _)))
          go_wp2
          go_ret
          exact ⟨by rw [HR.out]; rfl, below_drewN hB _⟩
    · have HT : Hid (colsB xs = decide ((xs.length : Int) ≤ 60)) := by
        show colsB xs = _
        have h := HA.out
        rw [List.take_of_length_le (by omega)] at h
        unfold colsB
        rw [h, Bool.and_true]
        apply decide_eq_decide.2
        omega
      go_wp2
      go_ret
      exact ⟨by rw [HT.out]; rfl, hB⟩
end Go.Proofs.YthpchphncelkpaaDoor
