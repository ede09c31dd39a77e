/- Lemmas and contracts for WholePlan (Cols Short Short2): plain words on memory, contracts of the functions that the law reaches. No condition but what each states. -/
import Derived.Test.YtdfnclnjnmdboaaGreatDoorMWholePlanStrs
import Derived.Test.YtdfnclnjnmdboaaGreatDoorMWholePlanIn1
import Derived.Test.YtdfnclnjnmdboaaGreatDoorMWholePlanMstr
import Derived.Deep.QuietTactic
import Derived.BigQuiet
import Derived.Deep.RegionHeld3
import Derived.Test.YtdfnclnjnmdboaaGreatDoorMWholePlanMany
import Derived.Test.YtdfnclnjnmdboaaGreatDoorMWholePlanEnc
import Derived.WalkSpells
import Derived.Test.YtdfnclnjnmdboaaGreatDoorMWholePlanSapp
namespace Go.Proofs.YtdfnclnjnmdboaaGreatDoor
set_option linter.unusedVariables false
open Go.RowKit

def dgB (b : UInt8) : Bool := decide (48 ≤ (b.toNat : Int) ∧ (b.toNat : Int) ≤ 57)
def colB (s : ByteArray) : Bool := inB s.size 1 12 && s.data.toList.all dgB
theorem all_take_succ' {α : Type} (p : α → Bool) (l : List α) (k : Nat) (h : k < l.length) : (l.take (k + 1)).all p = ((l.take k).all p && p l[k]) := by
  rw [List.take_succ_eq_append_getElem h, List.all_append]; simp
theorem all_false_at' {α : Type} {p : α → Bool} {l : List α} {k : Nat} (h : k < l.length) (hp : p l[k] = false) : l.all p = false := by
  rw [List.all_eq_false]; exact ⟨l[k], List.getElem_mem h, by rw [hp]; simp⟩
theorem colB_iff {s : ByteArray} (h : colB s = true) : 1 ≤ s.size ∧ s.size ≤ 12 ∧ s.data.toList.all dgB = true := by
  unfold colB at h
  rw [Bool.and_eq_true, inB_iff] at h
  exact ⟨by omega, by omega, h.2⟩

set_option maxRecDepth 20000 in
theorem c_widthValid (n : Int) (w : World) :
    Calls Tryz.prog 112 #[(.int .i64 (n))] w fun e w' => e = .returned (.bool (inB n 1 12)) ∧ w = w' := by
  go_enter Tryz.func112, Tryz.ntmps112
  go_wp2
  all_goals (go_ret; refine ⟨ret_bool ?_, rfl⟩; go_light; unfold inB; simp; try omega)
set_option maxRecDepth 20000 in
set_option maxHeartbeats 400000 in
theorem c_impl_ColumnValid (s : ByteArray) (w : World) (hs : s.size ≤ 9223372036854775807) :
    Calls Tryz.prog 163 #[.string s] w fun e w' => e = .returned (.bool (colB s)) ∧ w = w' := by
  cases h1 : inB s.size 1 12
  · have HR : Hid (colB s = false) := by show colB s = false; unfold colB; rw [h1]; rfl
    go_enter Tryz.func163, Tryz.ntmps163
    go_wp2_with (go_at_call 112; refine (c_widthValid _ _).mono ?_; rintro e w' ⟨rfl, rfl⟩)
    go_ret
    exact ⟨by rw [HR.out]; rfl, rfl⟩
  · have hL : Hid (colB s = s.data.toList.all dgB) := by show colB s = _; unfold colB; rw [h1]; rfl
    go_enter Tryz.func163, Tryz.ntmps163
    go_wp2_with (go_at_call 112; refine (c_widthValid _ _).mono ?_; rintro e w' ⟨rfl, rfl⟩)
    clear h1
    go_loop [10] (fun i => ∃ k : Nat, k ≤ s.size ∧ i = .int .i64 k ∧ (s.data.toList.take k).all dgB = true) (fun i => s.size - (intOf i).toNat)
    case atStart => exact ⟨0, by omega, rfl, rfl⟩
    case round =>
      obtain ⟨k, hk, rfl, hall⟩ := hrel
      have HA : Hid _ := hall
      clear hall
      by_cases hlt : k < s.size
      · have hlt' : k < s.data.toList.length := by rw [size_data]; exact hlt
        have ha := all_take_succ' dgB s.data.toList k hlt'
        have he : s.data.toList[k] = s[k] := rfl
        rw [he] at ha
        by_cases hb : dgB s[k] = true
        · have hb2 : 48 ≤ (s[k].toNat : Int) ∧ (s[k].toNat : Int) ≤ 57 := by simpa [dgB] using hb
          obtain ⟨b1, b2⟩ := hb2
          have HN : Hid ((s.data.toList.take (k + 1)).all dgB = true) := by show _ = true; rw [ha, HA.out, hb]; rfl
          clear ha hb he
          go_wp2
          go_round
          case rel => exact ⟨k + 1, by omega, by go_num, HN.out⟩
          case measure => simp [intOf]; omega
        · have hf : Hid (colB s = false) := by
            show colB s = false
            rw [hL.out]
            exact all_false_at' hlt' (by rw [he]; simpa using hb)
          have hb2 : (s[k].toNat : Int) < 48 ∨ 48 ≤ (s[k].toNat : Int) ∧ 57 < (s[k].toNat : Int) := by
            have : ¬ (48 ≤ (s[k].toNat : Int) ∧ (s[k].toNat : Int) ≤ 57) := fun q => hb (decide_eq_true q)
            omega
          clear ha hb he
          rcases hb2 with hb2 | ⟨hb2, hb3⟩
          all_goals
            go_wp2
            go_ret
            exact ⟨by rw [hf.out]; rfl, rfl⟩
      · have HT : Hid (colB s = true) := by
          show colB s = true
          rw [hL.out]
          have h := HA.out
          rwa [List.take_of_length_le (by rw [size_data]; omega)] at h
        go_wp2
        go_ret
        exact ⟨by rw [HT.out]; rfl, rfl⟩

def alikeB (a b : ByteArray) : Bool := colB a && colB b && decide (a.size = b.size)
set_option maxRecDepth 20000 in
theorem c_alike (a b : ByteArray) (w : World) (ha : a.size ≤ 9223372036854775807) (hb : b.size ≤ 9223372036854775807) :
    Calls Tryz.prog 145 #[.string a, .string b] w fun e w' => e = .returned (.bool (alikeB a b)) ∧ w = w' := by
  have ca := c_impl_ColumnValid a w ha
  have cb := c_impl_ColumnValid b w hb
  cases h1 : colB a
  · have HR : Hid (alikeB a b = false) := by show alikeB a b = false; unfold alikeB; rw [h1]; rfl
    rw [h1] at ca
    clear cb h1
    go_enter Tryz.func145, Tryz.ntmps145
    go_wp2_with fail
    refine ca.mono ?_
    rintro e w' ⟨rfl, rfl⟩
    go_wp2
    go_ret
    exact ⟨by rw [HR.out]; rfl, rfl⟩
  · cases h2 : colB b
    · have HR : Hid (alikeB a b = false) := by show alikeB a b = false; unfold alikeB; rw [h1, h2]; rfl
      rw [h1] at ca
      rw [h2] at cb
      clear h1 h2
      go_enter Tryz.func145, Tryz.ntmps145
      go_wp2_with fail
      refine ca.mono ?_
      rintro e w' ⟨rfl, rfl⟩
      go_wp2_with fail
      refine cb.mono ?_
      rintro e w' ⟨rfl, rfl⟩
      go_wp2
      go_ret
      exact ⟨by rw [HR.out]; rfl, rfl⟩
    · rw [h1] at ca
      rw [h2] at cb
      by_cases h3 : a.size = b.size
      · have HR : Hid (alikeB a b = true) := by show alikeB a b = true; unfold alikeB; rw [h1, h2, decide_eq_true h3]; rfl
        have e3 : ((a.size : Int) == (b.size : Int)) = true := beq_iff_eq.2 (by omega)
        clear h1 h2 h3
        go_enter Tryz.func145, Tryz.ntmps145
        go_wp2_with fail
        refine ca.mono ?_
        rintro e w' ⟨rfl, rfl⟩
        go_wp2_with fail
        refine cb.mono ?_
        rintro e w' ⟨rfl, rfl⟩
        go_wp2
        go_ret
        exact ⟨by rw [HR.out]; rfl, rfl⟩
      · have HR : Hid (alikeB a b = false) := by show alikeB a b = false; unfold alikeB; rw [h1, h2, decide_eq_false h3]; rfl
        have e3 : ((a.size : Int) == (b.size : Int)) = false := beq_eq_false_iff_ne.2 (by omega)
        clear h1 h2 h3
        go_enter Tryz.func145, Tryz.ntmps145
        go_wp2_with fail
        refine ca.mono ?_
        rintro e w' ⟨rfl, rfl⟩
        go_wp2_with fail
        refine cb.mono ?_
        rintro e w' ⟨rfl, rfl⟩
        go_wp2
        go_ret
        exact ⟨by rw [HR.out]; rfl, rfl⟩
end Go.Proofs.YtdfnclnjnmdboaaGreatDoor

namespace Go.Proofs.YtdfnclnjnmdboaaGreatDoor
set_option linter.unusedVariables false
open Go.RowKit

/-- how many bytes two strings share at their beginnings, but at most all but the first one's last -/
def shL : List UInt8 → List UInt8 → Nat
  | a :: a2 :: l, b :: bs => if a = b then 1 + shL (a2 :: l) bs else 0
  | _, _ => 0
theorem shL_stop {a b : List UInt8} (h : a.length ≤ 1) : shL a b = 0 := by
  match a, h with
  | [], _ => simp [shL]
  | [x], _ => simp [shL]
  | x :: y :: l, h => simp at h
theorem shL_le (a b : List UInt8) : shL a b ≤ a.length - 1 := by
  induction a generalizing b with
  | nil => simp [shL]
  | cons x a ih =>
    match a, b with
    | [], _ => simp [shL]
    | y :: l, [] => simp [shL]
    | y :: l, z :: b =>
      rw [shL]
      split
      · have := ih b; simp at this ⊢; omega
      · omega
theorem shL_drop {a b : List UInt8} {n : Nat} (h1 : n + 1 < a.length) (h2 : n < b.length) (he : a[n]'(by omega) = b[n]) : shL (a.drop n) (b.drop n) = 1 + shL (a.drop (n + 1)) (b.drop (n + 1)) := by
  rw [List.drop_eq_getElem_cons (by omega : n < a.length), List.drop_eq_getElem_cons h2, List.drop_eq_getElem_cons h1, shL, if_pos he]
theorem shL_drop_ne {a b : List UInt8} {n : Nat} (h1 : n + 1 < a.length) (h2 : n < b.length) (he : a[n]'(by omega) ≠ b[n]) : shL (a.drop n) (b.drop n) = 0 := by
  rw [List.drop_eq_getElem_cons (by omega : n < a.length), List.drop_eq_getElem_cons h2, List.drop_eq_getElem_cons h1, shL, if_neg he]

/-- all are columns of the first one's width -/
def colsB (xs : List ByteArray) : Bool := decide (xs.length ≤ 60) && xs.all fun s => colB s && decide (s.size = (xs.getD 0 noS).size)
def shoN (xs : List ByteArray) (i : Nat) : Nat := if i = 0 then 0 else shL (xs.getD i noS).data.toList (xs.getD (i - 1) noS).data.toList
def shoL (n : Nat) (s : ByteArray) : List UInt8 := List.replicate n 32 ++ s.data.toList.drop n
def shoE (xs : List ByteArray) (i : Nat) : ByteArray := ⟨(shoL (shoN xs i) (xs.getD i noS)).toArray⟩
theorem shoE_is (xs : List ByteArray) (i : Nat) : IsS (shoE xs i) (shoL (shoN xs i) (xs.getD i noS)) := IsS.mk _
def shorF (xs : List ByteArray) : List ByteArray := if colsB xs = true then (List.range xs.length).map (shoE xs) else []
theorem colsB_iff {xs : List ByteArray} (h : colsB xs = true) : xs.length ≤ 60 ∧ ∀ s ∈ xs, colB s = true ∧ s.size = (xs.getD 0 noS).size := by
  unfold colsB at h
  simp only [Bool.and_eq_true, decide_eq_true_eq, List.all_eq_true] at h
  exact h
theorem shorF_len (xs : List ByteArray) : (shorF xs).length ≤ 60 := by
  unfold shorF
  split
  · rename_i h; rw [List.length_map, List.length_range]; exact (colsB_iff h).1
  · simp

end Go.Proofs.YtdfnclnjnmdboaaGreatDoor

namespace Go.Proofs.YtdfnclnjnmdboaaGreatDoor
set_option linter.unusedVariables false
open Go.RowKit

theorem keep2 {w1 wa wb : World} {b o o' : Nat} {v0 v1 : Value} (hb : b < w1.heap.size) (h : Below w1.heap.size w1 wa ∧ wa.cell? ⟨b, o, none⟩ = some v0 ∧ wa.cell? ⟨b, o', none⟩ = some v1) (k : Below wa.heap.size wa wb) :
    Below w1.heap.size w1 wb ∧ wb.cell? ⟨b, o, none⟩ = some v0 ∧ wb.cell? ⟨b, o', none⟩ = some v1 := by
  obtain ⟨h0, h1, h2⟩ := h
  have hs := h0.size
  obtain ⟨hc, _⟩ := bcell k
  exact ⟨bthen h0 k, by rw [hc _ _ (by omega)]; exact h1, by rw [hc _ _ (by omega)]; exact h2⟩
theorem keepW {w wx : World} {b o : Nat} {v0 : Value} (e0 : w.cell? ⟨b, o, none⟩ = some v0) (hb : b < w.heap.size) (hB : Below w.heap.size w wx) : Below w.heap.size w wx ∧ wx.cell? ⟨b, o, none⟩ = some v0 :=
  ⟨hB, by rw [(bcell hB).1 _ _ hb]; exact e0⟩
theorem slice_from (y : ByteArray) (n : Nat) (h : n ≤ y.size) (W : World) : (Instr.slice 9 (.string y) (some (.int .i64 (n : Int))) none none).run Tryz.prog W = .ok (.string (y.extract n y.size)) W := by
  rw [run_slice_string_from_if W 9 y .i64 n Tryz.underlying9, if_pos (by omega), Int.toNat_natCast]
theorem slice_fromT (y : ByteArray) (n : Nat) (h : n ≤ y.size) : ∃ T, (∀ W, (Instr.slice 9 (.string y) (some (.int .i64 (n : Int))) none none).run Tryz.prog W = .ok (.string T) W) ∧ T.size ≤ y.size ∧ IsS T (y.data.toList.drop n) := by
  refine ⟨_, slice_from y n h, by rw [ByteArray.size_extract]; omega, ?_⟩
  refine ((IsS.self y).ext n y.size).cast (List.take_of_length_le ?_)
  rw [List.length_drop, size_data]
  exact Nat.le_refl _
theorem add_str (a b : ByteArray) (h : a.size + b.size ≤ 9223372036854775807) (W : World) : (binOp .add 9 (.string a) (.string b)).run Tryz.prog W = .ok (.string (a ++ b)) W := by
  simp [binOp, run_string_add_sum W a b h]
theorem shoE_of {xs : List ByteArray} {k n : Nat} {y Y : ByteArray} (hy : xs.getD k noS = y) (hn : shoN xs k = n) (hY : IsS Y (List.replicate n 32)) {T : ByteArray} (hT : IsS T (y.data.toList.drop n)) : Y ++ T = shoE xs k := by
  refine IsS.inj ?_ (shoE_is xs k)
  refine (hY.app hT).cast ?_
  unfold shoL
  rw [hy, hn]
theorem range_map_succ {α : Type} (f : Nat → α) (k : Nat) : (List.range (k + 1)).map f = (List.range k).map f ++ [f k] := by
  rw [List.range_succ, List.map_append]; rfl

end Go.Proofs.YtdfnclnjnmdboaaGreatDoor
