/- Lemmas and contracts for PlanText (Cols): plain words on memory, contracts of the functions that the law reaches. No condition but what each states. -/
import Derived.Test.YtdfnclnjnmdboaaGreatDoorMPlanTextRows1
import Derived.Test.YtdfnclnjnmdboaaGreatDoorIn1
import Derived.Test.YtdfnclnjnmdboaaGreatDoorMPlanTextMstr
import Derived.Deep.QuietTactic
import Derived.BigQuiet
import Derived.Deep.RegionHeld3
namespace Go.Proofs.YtdfnclnjnmdboaaGreatDoor
set_option linter.unusedVariables false
open Go.RowKit

def dgB (b : UInt8) : Bool := decide (48 ≤ (b.toNat : Int) ∧ (b.toNat : Int) ≤ 57)
def colB (s : ByteArray) : Bool := inB s.size 1 12 && s.data.toList.all dgB
theorem all_take_succ' {α : Type} (p : α → Bool) (l : List α) (k : Nat) (h : k < l.length) : (l.take (k + 1)).all p = ((l.take k).all p && p l[k]) := by
  rw [List.take_succ_eq_append_getElem h, List.all_append]; simp
theorem all_false_at' {α : Type} {p : α → Bool} {l : List α} {k : Nat} (h : k < l.length) (hp : p l[k] = false) : l.all p = false := by
  rw [List.all_eq_false]; exact ⟨l[k], List.getElem_mem h, by rw [hp]; simp⟩
theorem colB_iff {s : ByteArray} (h : colB s = true) : 1 ≤ s.size ∧ s.size ≤ 12 ∧ s.data.toList.all dgB = true := by
  unfold colB at h
  rw [Bool.and_eq_true, inB_iff] at h
  exact ⟨by omega, by omega, h.2⟩

set_option maxRecDepth 20000 in
theorem c_widthValid (n : Int) (w : World) :
    Calls Tryz.prog 112 #[(.int .i64 (n))] w fun e w' => e = .returned (.bool (inB n 1 12)) ∧ w = w' := by
  go_enter Tryz.func112, Tryz.ntmps112
  go_wp2
  all_goals (go_ret; refine ⟨ret_bool ?_, rfl⟩; go_light; unfold inB; simp; try omega)
set_option maxRecDepth 20000 in
set_option maxHeartbeats 400000 in
theorem c_impl_ColumnValid (s : ByteArray) (w : World) (hs : s.size ≤ 9223372036854775807) :
    Calls Tryz.prog 163 #[.string s] w fun e w' => e = .returned (.bool (colB s)) ∧ w = w' := by
  cases h1 : inB s.size 1 12
  · have HR : Hid (colB s = false) := by show colB s = false; unfold colB; rw [h1]; rfl
    go_enter Tryz.func163, Tryz.ntmps163
    go_wp2_with (go_at_call 112; refine (c_widthValid _ _).mono ?_; rintro e w' ⟨rfl, rfl⟩)
    go_ret
    exact ⟨by rw [HR.out]; rfl, rfl⟩
  · have hL : Hid (colB s = s.data.toList.all dgB) := by show colB s = _; unfold colB; rw [h1]; rfl
    go_enter Tryz.func163, Tryz.ntmps163
    go_wp2_with (go_at_call 112; refine (c_widthValid _ _).mono ?_; rintro e w' ⟨rfl, rfl⟩)
    clear h1
    go_loop [10] (fun i => ∃ k : Nat, k ≤ s.size ∧ i = .int .i64 k ∧ (s.data.toList.take k).all dgB = true) (fun i => s.size - (intOf i).toNat)
    case atStart => exact ⟨0, by omega, rfl, rfl⟩
    case round =>
      obtain ⟨k, hk, rfl, hall⟩ := hrel
      have HA : Hid _ := hall
      clear hall
      by_cases hlt : k < s.size
      · have hlt' : k < s.data.toList.length := by rw [size_data]; exact hlt
        have ha := all_take_succ' dgB s.data.toList k hlt'
        have he : s.data.toList[k] = s[k] := rfl
        rw [he] at ha
        by_cases hb : dgB s[k] = true
        · have hb2 : 48 ≤ (s[k].toNat : Int) ∧ (s[k].toNat : Int) ≤ 57 := by simpa [dgB] using hb
          obtain ⟨b1, b2⟩ := hb2
          have HN : Hid ((s.data.toList.take (k + 1)).all dgB = true) := by show _ = true; rw [ha, HA.out, hb]; rfl
          clear ha hb he
          go_wp2
          go_round
          case rel => exact ⟨k + 1, by omega, by go_num, HN.out⟩
          case measure => simp [intOf]; omega
        · have hf : Hid (colB s = false) := by
            show colB s = false
            rw [hL.out]
            exact all_false_at' hlt' (by rw [he]; simpa using hb)
          have hb2 : (s[k].toNat : Int) < 48 ∨ 48 ≤ (s[k].toNat : Int) ∧ 57 < (s[k].toNat : Int) := by
            have : ¬ (48 ≤ (s[k].toNat : Int) ∧ (s[k].toNat : Int) ≤ 57) := fun q => hb (decide_eq_true q)
            omega
          clear ha hb he
          rcases hb2 with hb2 | ⟨hb2, hb3⟩
          all_goals
            go_wp2
            go_ret
            exact ⟨by rw [hf.out]; rfl, rfl⟩
      · have HT : Hid (colB s = true) := by
          show colB s = true
          rw [hL.out]
          have h := HA.out
          rwa [List.take_of_length_le (by rw [size_data]; omega)] at h
        go_wp2
        go_ret
        exact ⟨by rw [HT.out]; rfl, rfl⟩

def alikeB (a b : ByteArray) : Bool := colB a && colB b && decide (a.size = b.size)
set_option maxRecDepth 20000 in
theorem c_alike (a b : ByteArray) (w : World) (ha : a.size ≤ 9223372036854775807) (hb : b.size ≤ 9223372036854775807) :
    Calls Tryz.prog 145 #[.string a, .string b] w fun e w' => e = .returned (.bool (alikeB a b)) ∧ w = w' := by
  have ca := c_impl_ColumnValid a w ha
  have cb := c_impl_ColumnValid b w hb
  cases h1 : colB a
  · have HR : Hid (alikeB a b = false) := by show alikeB a b = false; unfold alikeB; rw [h1]; rfl
    rw [h1] at ca
    clear cb h1
    go_enter Tryz.func145, Tryz.ntmps145
    go_wp2_with fail
    refine ca.mono ?_
    rintro e w' ⟨rfl, rfl⟩
    go_wp2
    go_ret
    exact ⟨by rw [HR.out]; rfl, rfl⟩
  · cases h2 : colB b
    · have HR : Hid (alikeB a b = false) := by show alikeB a b = false; unfold alikeB; rw [h1, h2]; rfl
      rw [h1] at ca
      rw [h2] at cb
      clear h1 h2
      go_enter Tryz.func145, Tryz.ntmps145
      go_wp2_with fail
      refine ca.mono ?_
      rintro e w' ⟨rfl, rfl⟩
      go_wp2_with fail
      refine cb.mono ?_
      rintro e w' ⟨rfl, rfl⟩
      go_wp2
      go_ret
      exact ⟨by rw [HR.out]; rfl, rfl⟩
    · rw [h1] at ca
      rw [h2] at cb
      by_cases h3 : a.size = b.size
      · have HR : Hid (alikeB a b = true) := by show alikeB a b = true; unfold alikeB; rw [h1, h2, decide_eq_true h3]; rfl
        have e3 : ((a.size : Int) == (b.size : Int)) = true := beq_iff_eq.2 (by omega)
        clear h1 h2 h3
        go_enter Tryz.func145, Tryz.ntmps145
        go_wp2_with fail
        refine ca.mono ?_
        rintro e w' ⟨rfl, rfl⟩
        go_wp2_with fail
        refine cb.mono ?_
        rintro e w' ⟨rfl, rfl⟩
        go_wp2
        go_ret
        exact ⟨by rw [HR.out]; rfl, rfl⟩
      · have HR : Hid (alikeB a b = false) := by show alikeB a b = false; unfold alikeB; rw [h1, h2, decide_eq_false h3]; rfl
        have e3 : ((a.size : Int) == (b.size : Int)) = false := beq_eq_false_iff_ne.2 (by omega)
        clear h1 h2 h3
        go_enter Tryz.func145, Tryz.ntmps145
        go_wp2_with fail
        refine ca.mono ?_
        rintro e w' ⟨rfl, rfl⟩
        go_wp2_with fail
        refine cb.mono ?_
        rintro e w' ⟨rfl, rfl⟩
        go_wp2
        go_ret
        exact ⟨by rw [HR.out]; rfl, rfl⟩
end Go.Proofs.YtdfnclnjnmdboaaGreatDoor
