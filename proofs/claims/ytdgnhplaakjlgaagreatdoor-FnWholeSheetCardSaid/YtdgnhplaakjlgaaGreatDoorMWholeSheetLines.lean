/- Lemmas and contracts for WholeSheet (Lines Lines2): plain words on memory, contracts of the functions that the law reaches. No condition but what each states. -/
import Derived.Test.YtdgnhplaakjlgaaGreatDoorMWholeSheetStrs
import Derived.Test.YtdgnhplaakjlgaaGreatDoorShelf
import Derived.Lib.Strings
import Derived.Deep.QuietTactic
import Derived.BigQuiet
namespace Go.Proofs.YtdgnhplaakjlgaaGreatDoor
set_option linter.unusedVariables false
open Go.RowKit

def okB (b : UInt8) : Bool := decide (32 ≤ (b.toNat : Int) ∧ (b.toNat : Int) ≤ 126)
def endsB (s : ByteArray) : Bool := Lib.hasSuffix s.data.toList [32]
def lvB (s : ByteArray) : Bool := decide (s.size ≤ 100) && !endsB s && s.data.toList.all okB
def linesB (xs : List ByteArray) : Bool := decide (xs.length ≤ 40) && xs.all lvB

theorem all_take_succ {α : Type} (p : α → Bool) (l : List α) (k : Nat) (h : k < l.length) : (l.take (k + 1)).all p = ((l.take k).all p && p l[k]) := by
  rw [List.take_succ_eq_append_getElem h, List.all_append]; simp
theorem all_false_at {α : Type} {p : α → Bool} {l : List α} {k : Nat} (h : k < l.length) (hp : p l[k] = false) : l.all p = false := by
  rw [List.all_eq_false]; exact ⟨l[k], List.getElem_mem h, by rw [hp]; simp⟩
theorem getD_getElem {α : Type} {l : List α} {k : Nat} (d : α) (h : k < l.length) : l.getD k d = l[k] := by simp [List.getD, h]

set_option maxHeartbeats 400000 in
theorem c_lineValid (s : ByteArray) (w : World) (hs : s.size ≤ 9223372036854775807) :
    Calls Tryz.prog 76 #[.string s] w fun e w' => e = .returned (.bool (lvB s)) ∧ w = w' := by
  by_cases h1 : 100 < s.size
  · have HR : Hid (lvB s = false) := by show lvB s = false; unfold lvB; simp; omega
    have h1' : (100 : Int) < (s.size : Int) := by omega
    go_enter Tryz.func76, Tryz.ntmps76
    go_wp2_with fail
    go_ret
    exact ⟨by rw [HR.out]; rfl, rfl⟩
  · have hc := Tryz.strings_HasSuffix s ⟨#[32]⟩ w hs
    obtain ⟨E, hE⟩ : ∃ E, Lib.hasSuffix s.data.toList [32] = E := ⟨_, rfl⟩
    rw [show (ByteArray.mk #[32]).data.toList = [32] from rfl, hE] at hc
    have HE : Hid (endsB s = E) := hE
    clear hE
    cases E
    · have hL : Hid (lvB s = s.data.toList.all okB) := by show lvB s = _; unfold lvB; rw [HE.out, decide_eq_true (by omega)]; rfl
      go_enter Tryz.func76, Tryz.ntmps76
      go_wp2_with (go_at_call 89; refine hc.mono ?_; rintro e w' ⟨rfl, hw⟩; subst hw)
      go_loop [13] (fun i => ∃ k : Nat, k ≤ s.size ∧ i = .int .i64 k ∧ (s.data.toList.take k).all okB = true) (fun i => s.size - (intOf i).toNat)
      case atStart => exact ⟨0, by omega, rfl, rfl⟩
      case round =>
        obtain ⟨k, hk, rfl, hall⟩ := hrel
        have HA : Hid _ := hall
        clear hall
        by_cases hlt : k < s.size
        · have hlt' : k < s.data.toList.length := by rw [size_data]; exact hlt
          have ha := all_take_succ okB s.data.toList k hlt'
          have he : s.data.toList[k] = s[k] := rfl
          rw [he] at ha
          by_cases hb : okB s[k] = true
          · have hb2 : 32 ≤ (s[k].toNat : Int) ∧ (s[k].toNat : Int) ≤ 126 := by simpa [okB] using hb
            obtain ⟨b1, b2⟩ := hb2
            have HN : Hid ((s.data.toList.take (k + 1)).all okB = true) := by show _ = true; rw [ha, HA.out, hb]; rfl
            clear ha hb he
            go_wp2
            go_round
            case rel => exact ⟨k + 1, by omega, by go_num, HN.out⟩
            case measure => simp [intOf]; omega
          · have hf : Hid (lvB s = false) := by
              show lvB s = false
              rw [hL.out]
              exact all_false_at hlt' (by rw [he]; simpa using hb)
            have hb2 : (s[k].toNat : Int) < 32 ∨ 32 ≤ (s[k].toNat : Int) ∧ 126 < (s[k].toNat : Int) := by
              have : ¬ (32 ≤ (s[k].toNat : Int) ∧ (s[k].toNat : Int) ≤ 126) := fun q => hb (decide_eq_true q)
              omega
            clear ha hb he
            rcases hb2 with hb2 | ⟨hb2, hb3⟩
            all_goals
              go_wp2
              go_ret
              exact ⟨by rw [hf.out]; rfl, rfl⟩
        · have HT : Hid (lvB s = true) := by
            show lvB s = true
            rw [hL.out]
            have h := HA.out
            rwa [List.take_of_length_le (by rw [size_data]; omega)] at h
          go_wp2
          go_ret
          exact ⟨by rw [HT.out]; rfl, rfl⟩
    · have HR : Hid (lvB s = false) := by show lvB s = false; unfold lvB; rw [HE.out]; simp
      go_enter Tryz.func76, Tryz.ntmps76
      go_wp2_with (go_at_call 89; refine hc.mono ?_; rintro e w' ⟨rfl, hw⟩; subst hw)
      go_ret
      exact ⟨by rw [HR.out]; rfl, rfl⟩

set_option maxHeartbeats 400000 in
theorem c_impl_LinesValid (v : Value) (xs : List ByteArray) (w : World) (ha : RdS w v xs) (hx : xs.length ≤ 9223372036854775807) (hs : ∀ s ∈ xs, s.size ≤ 9223372036854775807) :
    Calls Tryz.prog 50 #[v] w fun e w' => e = .returned (.bool (linesB xs)) ∧ Below w.heap.size w w' := by
  have ha0 := ha.op
  obtain ⟨a, cap, rfl, _⟩ := ha
  simp only [List.length_map] at ha0 ⊢
  by_cases h1 : 40 < xs.length
  · have HR : Hid (linesB xs = false) := by show linesB xs = false; unfold linesB; simp; omega
    have h1' : (40 : Int) < (xs.length : Int) := by omega
    clear ha0
    go_enter Tryz.func50, Tryz.ntmps50
    go_wp2
    go_ret
    exact ⟨by rw [HR.out]; rfl, Below.refl _ _⟩
  · have hL : Hid (linesB xs = xs.all lvB) := by show linesB xs = _; unfold linesB; rw [decide_eq_true (by omega)]; rfl
    go_enter Tryz.func50, Tryz.ntmps50
    go_wp2
    go_loopw [10] (fun i wr => ∃ k : Nat, k ≤ xs.length ∧ i = .int .i64 k ∧ (xs.take k).all lvB = true ∧ Below w.heap.size w wr) (fun i _ => xs.length - (intOf i).toNat)
    case atStart => exact ⟨0, by omega, rfl, rfl, Below.refl _ _⟩
    case round =>
      obtain ⟨k, hk, rfl, hall, hB⟩ := hrel
      have HA : Hid _ := hall
      clear hall
      by_cases hlt : k < xs.length
      · rcases ha0 with ⟨a', cap', e1, rfl⟩ | ⟨b1, o1, c1, e0, hb1, hc1⟩
        · simp at hlt
        · simp only [Value.slice.injEq] at e0
          obtain ⟨rfl, _, rfl⟩ := e0
          have e1 : wr.cell? ⟨b1, o1 + k, none⟩ = some (.string (xs.getD k noS)) := by rw [(bcell hB).1 _ _ hb1]; exact hc1 k hlt
          have hsz : (xs.getD k noS).size ≤ 9223372036854775807 := hs _ (by simp [List.getD, hlt])
          have ht := all_take_succ lvB xs k hlt
          have hg := getD_getElem noS hlt
          obtain ⟨y, hy⟩ : ∃ y, xs[k] = y := ⟨_, rfl⟩
          rw [hy] at hg ht
          rw [hg] at e1 hsz
          cases hv : lvB y
          · have HF : Hid (linesB xs = false ∧ lvB y = false) := ⟨by rw [hL.out]; exact all_false_at hlt (by rw [hy]; exact hv), hv⟩
            clear ht hc1 hg hy hv hs
            go_wp2_with (go_at_call 76; refine (c_lineValid y _ hsz).mono ?_; rw [HF.out.2]; rintro e w' ⟨rfl, rfl⟩)
            go_ret
            exact ⟨by rw [HF.out.1]; rfl, hB⟩
          · have HT : Hid ((xs.take (k + 1)).all lvB = true ∧ lvB y = true) := ⟨by rw [ht, HA.out, hv]; rfl, hv⟩
            clear ht hc1 hg hy hv hs
            go_wp2_with (go_at_call 76; refine (c_lineValid y _ hsz).mono ?_; rw [HT.out.2]; rintro e w' ⟨rfl, rfl⟩)
            go_roundw
            case rel => exact ⟨k + 1, by omega, by go_num, HT.out.1, hB⟩
            case measure => simp [intOf]; omega
      · have HT : Hid (linesB xs = true) := by
          show linesB xs = true
          rw [hL.out]
          have h := HA.out
          rwa [List.take_of_length_le (by omega)] at h
        clear ha0
        go_wp2
        go_ret
        exact ⟨by rw [HT.out]; rfl, hB⟩
end Go.Proofs.YtdgnhplaakjlgaaGreatDoor

namespace Go.Proofs.YtdgnhplaakjlgaaGreatDoor
set_option linter.unusedVariables false
open Go.RowKit

theorem endsB_nil {y : ByteArray} (h : y.size = 0) : endsB y = false := by
  have : y.data.toList = [] := List.eq_nil_of_length_eq_zero (by rw [size_data]; exact h)
  unfold endsB Lib.hasSuffix
  rw [this]; rfl
theorem endsB_last {y : ByteArray} (h : y.size - 1 < y.size) : endsB y = ((y[y.size - 1].toNat : Int) == 32) := by
  unfold endsB Lib.hasSuffix
  have hne : y.data.toList ≠ [] := fun e => by have := size_data y; rw [e] at this; simp at this; omega
  have hl : y.data.toList = y.data.toList.dropLast ++ [y.data.toList.getLast hne] := (List.dropLast_concat_getLast hne).symm
  have hg : y.data.toList.getLast hne = y[y.size - 1] := by
    rw [List.getLast_eq_getElem]
    show y.data.toList[y.data.toList.length - 1] = y.data[y.size - 1]
    simp only [size_data]
    exact Array.getElem_toList (xs := y.data) (i := y.size - 1) h
  rw [hg] at hl
  rw [hl]
  generalize y[y.size - 1] = b
  by_cases e : b = 32
  · subst e
    have : ([32] : List UInt8).isSuffixOf (y.data.toList.dropLast ++ [32]) = true := List.isSuffixOf_iff_suffix.2 ⟨_, rfl⟩
    rw [this]; rfl
  · have h1 : ([32] : List UInt8).isSuffixOf (y.data.toList.dropLast ++ [b]) = false := by
      rw [← Bool.not_eq_true]
      intro h
      obtain ⟨t, ht⟩ := List.isSuffixOf_iff_suffix.1 h
      have := congrArg List.getLast? ht
      simp at this
      exact e this.symm
    have h2 : ((b.toNat : Int) == 32) = false := beq_eq_false_iff_ne.2 (fun q => e (by
      have : b.toNat = 32 := by omega
      exact UInt8.toNat_inj.1 this))
    rw [h1, h2]
theorem lvB_of {y : ByteArray} (hall : y.data.toList.all okB = true) : lvB y = (decide (y.size ≤ 100) && !endsB y) := by
  unfold lvB; rw [hall]; simp

end Go.Proofs.YtdgnhplaakjlgaaGreatDoor
