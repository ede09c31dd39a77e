/- The library's table of powers of ten, as the card lists it; the decimal text of a number, in the library. -/
import Derived.Test.YtdgnhplaakjlgaaGreatDoorDec
import Derived.Test.YtdgnhplaakjlgaaGreatDoorShelf
import Derived.Lib.LaidTab
import Derived.Lib.AppendIntMem
import Derived.LaidMore
import Derived.LaidSub
import Derived.MakeChecks
namespace Go.Proofs.YtdgnhplaakjlgaaGreatDoor
set_option linter.unusedVariables false
open Go.RowKit

/-- the table of powers of ten reads as the program's text lays it -/
def TabW (w : World) : Prop := Lib.TabIs Tryz.prog w "internal/strconv.uint64pow10" .u64 Lib.pow10Tab
theorem gTab : Tryz.prog.globalNamed "internal/strconv.uint64pow10" = some 0 := by kernel_rfl
theorem gTabT : (Tryz.prog.globals[0]?).map (·.type) = some 135 := by kernel_rfl
theorem TabW.lt {w : World} (h : TabW w) : 0 < w.heap.size := by
  unfold TabW Lib.TabIs World.var? at h
  rw [gTab] at h
  by_cases hlt : 0 < w.heap.size
  · exact hlt
  · simp only [Option.bind_some, Array.getElem?_eq_none (Nat.le_of_not_lt hlt)] at h
    cases h
theorem TabW.below {w w' : World} (h : TabW w) (hb : Below w.heap.size w w') : TabW w' := by
  have hlt := h.lt
  unfold TabW Lib.TabIs World.var? at h ⊢
  rw [gTab] at h ⊢
  simp only [Option.bind_some] at h ⊢
  rw [hb.block _ hlt]
  exact h
theorem TabW.of_laid {W : World} {l : List (String × DataW Unit)} (hf : (l.filter fun x => x.1 == "internal/strconv.uint64pow10") = [("internal/strconv.uint64pow10", Lib.tabData .u64 Lib.pow10Tab)]) (h : laidMetH Tryz.prog l W) : TabW W := by
  have h1 := h.filter (fun x => x.1 == "internal/strconv.uint64pow10")
  rw [hf, MakeChecks.laidMetH_plain _ _ _ (by kernel_rfl)] at h1
  exact Lib.tabIs_of_head gTab gTabT Tryz.underlying135 Tryz.underlying115 (by kernel_rfl) (by kernel_rfl) h1

theorem c_Itoa (n : Int) (w : World) (h : TabW w) (h0 : -9223372036854775808 ≤ n) (h1 : n ≤ 9223372036854775807) :
    Calls Tryz.prog 34 #[(.int .i64 (n))] w (StrB (Lib.itoa n) w) :=
  (Tryz.strconv_Itoa n h0 h1 w h).mono fun e w' ⟨he, k, os, hw⟩ => ⟨_, he, IsS.mk _, by rw [hw]; exact Lib.below_grow _ _ (Nat.le_refl _) _ _⟩
end Go.Proofs.YtdgnhplaakjlgaaGreatDoor
