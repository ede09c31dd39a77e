/- Contracts: the text of an entry of a page, in the reference. -/
import Derived.Test.YtdgnhplaakjlgaaGreatDoorDec
import Derived.Test.YtdgnhplaakjlgaaGreatDoorPgP
import Derived.Test.YtdgnhplaakjlgaaGreatDoorMany
namespace Go.Proofs.YtdgnhplaakjlgaaGreatDoor
set_option linter.unusedVariables false
open Go.RowKit

def entB (n : Int) (wd : Nat) : Bool := decide ((Lib.itoa n).length ≤ wd)
def entL (n : Int) (wd : Nat) : List UInt8 := List.replicate (wd - (Lib.itoa n).length) 32 ++ Lib.itoa n
def StrBB (L : List UInt8) (b : Bool) (w : World) (e : Ending) (w' : World) : Prop := ∃ Y, e = .returned (.tuple #[.string Y, .bool b]) ∧ IsS Y L ∧ Below w.heap.size w w'

set_option maxRecDepth 20000 in
set_option maxHeartbeats 400000 in
theorem c_l6Entry (n : Int) (wd : Nat) (w : World) (h0 : -1000000000000000 ≤ n) (h1 : n ≤ 1000000000000000) (hl : (Lib.itoa n).length ≤ 1000) (hw : wd ≤ 1000) :
    Calls Tryz.prog 90 #[(.int .i64 (n)), .int .i64 wd] w (StrBB (if entB n wd = true then entL n wd else []) (entB n wd) w) := by
  have hc := c_l9Dec n w h0 h1
  obtain ⟨b, hb⟩ : ∃ b, entB n wd = b := ⟨_, rfl⟩
  obtain ⟨L, hL⟩ : ∃ L, entL n wd = L := ⟨_, rfl⟩
  obtain ⟨F, hF⟩ : ∃ F, (if b = true then L else []) = F := ⟨_, rfl⟩
  have HE : Hid (b = decide ((Lib.itoa n).length ≤ wd) ∧ L = List.replicate (wd - (Lib.itoa n).length) 32 ++ Lib.itoa n ∧ F = (if b = true then L else [])) := ⟨hb.symm, hL.symm, hF.symm⟩
  rw [hb, hL, hF]
  clear hb hL hF
  generalize Lib.itoa n = D at hc hl HE
  go_enter Tryz.func90, Tryz.ntmps90
  go_wp2_with fail
  refine hc.mono ?_
  rintro e w1 ⟨Y, rfl, hY, hB⟩
  have hs := hY.size
  have hYs : Y.size ≤ 1000 := by omega
  by_cases h : Y.size ≤ wd
  · have HB : Hid (b = true ∧ F = L) := by
      have h1 : b = true := by rw [HE.out.1]; exact decide_eq_true (by omega)
      exact ⟨h1, by rw [HE.out.2.2, if_pos h1]⟩
    have HN : Hid (((wd : Int) - (Y.size : Int)).toNat = wd - D.length) := by show _ = _; omega
    have HS : Hid (Y.size = D.length) := hs
    clear hs
    have i1 : ¬ (wd : Int) < (Y.size : Int) := by omega
    go_wp2_with fail
    refine (c_ManySp 32 _ _ (by omega)).mono ?_
    rintro e w' ⟨Z, rfl, hZ, rfl⟩
    rw [HN.out] at hZ
    have hZs : Z.size ≤ 1000 := by rw [hZ.size, List.length_replicate]; omega
    have HO : Hid (IsS (Z ++ Y) F ∧ Below w.heap.size w w1) := ⟨(hZ.app hY).cast (by rw [HB.out.2, HE.out.2.1]), hB⟩
    clear hZ hY hB hc
    go_wp2
    go_ret2
    exact ⟨_, by rw [HB.out.1]; rfl, HO.out.1, HO.out.2⟩
  · have HB : Hid (b = false ∧ F = []) := by
      have h1 : b = false := by rw [HE.out.1]; exact decide_eq_false (by omega)
      exact ⟨h1, by rw [HE.out.2.2, h1]; rfl⟩
    have i1 : (wd : Int) < (Y.size : Int) := by omega
    clear hs hY hc
    go_wp2
    go_ret2
    exact ⟨⟨#[]⟩, by rw [HB.out.1]; rfl, by rw [HB.out.2]; rfl, hB⟩
end Go.Proofs.YtdgnhplaakjlgaaGreatDoor
