/- Lemmas and contracts for PlanText (DrawS): plain words on memory, contracts of the functions that the law reaches. No condition but what each states. -/
import Derived.Test.YtdfnclnjnmdboaaGreatDoorMPlanTextDraw
import Derived.Test.YtdfnclnjnmdboaaGreatDoorMPlanTextRows1
namespace Go.Proofs.YtdfnclnjnmdboaaGreatDoor
set_option linter.unusedVariables false
open Go.RowKit

/-- a string with a property is drawn: the source's block alone is written, blocks may be new -/
def DrawS (w : World) (g P : Nat) (Q : ByteArray → Prop) (e : Ending) (w' : World) : Prop :=
  ∃ x : ByteArray, e = .returned (.string x) ∧ Q x ∧ IsRdB w' g P ∧ w.grownBy w' (some g)
theorem RdS_lit (w : World) (xs : List ByteArray) (t : TypeId) (c : Nat) : RdS (w.alloc (.cells (xs.map (Value.string)).toArray t)) (.slice (some ⟨w.heap.size, 0, none⟩) xs.length c) xs := by
  refine ⟨some ⟨w.heap.size, 0, none⟩, c, by simp, ?_⟩
  by_cases h : xs = []
  · left; simp [h]
  · right
    refine ⟨w.heap.size, 0, rfl, by simp, fun i hi => ?_⟩
    simp [go_sem, World.cell?_alloc_at]

set_option maxRecDepth 20000 in
theorem c_of (g P : Nat) (v : Value) (xs : List ByteArray) (w : World) (h : IsRdB w g P) (hp : P ≤ 1000000) (hv : RdS w v xs) (hl : 0 < xs.length) (hl' : xs.length ≤ 1000) (hne : ∀ a n c, v = .slice (some a) n c → a.block ≠ g) :
    Calls Tryz.prog 36 #[.pointer (some ⟨g, 0, none⟩), v] w (DrawS w g (P + 1) fun x => x ∈ xs) := by
  have hv0 := hv
  obtain ⟨a, cap, rfl, hv2⟩ := hv0
  simp only [List.length_map] at hv hne ⊢
  clear hv2
  go_enter Tryz.func36, Tryz.ntmps36
  go_wp2_with fail
  refine (d_pick g P _ w h hp).mono ?_
  rintro e w1 ⟨x, rfl, ⟨hx0, hx1⟩, hr, hg⟩
  have hx2 : x < xs.length := by omega
  obtain ⟨k, rfl⟩ : ∃ k : Nat, x = k := ⟨x.toNat, by omega⟩
  have hv1 : RdS w1 (.slice a xs.length cap) xs := RdL_grown hv hg hne
  rcases hv1.op with ⟨a', c', e1, e2⟩ | ⟨b, off, c', e1, hb, hc⟩
  · rw [e2] at hl; simp at hl
  · simp only [Value.slice.injEq] at e1
    obtain ⟨rfl, _, rfl⟩ := e1
    have hk : k < xs.length := by omega
    have e1 := hc k hk
    have hm : xs.getD k noS ∈ xs := by simp [List.getD, hk]
    generalize xs.getD k noS = y at e1 hm
    have HO : Hid (y ∈ xs ∧ IsRdB w1 g (P + 1) ∧ w.grownBy w1 (some g)) := ⟨hm, hr, hg⟩
    clear hc hm hr hg hv hv1 h
    go_wp2
    go_ret
    exact ⟨y, rfl, HO.out.1, HO.out.2.1, HO.out.2.2⟩

theorem d_strlit (g P : Nat) (xs : List ByteArray) (w : World) (h : IsRdB w g P) (hp : P ≤ 1000000) (hl : 0 < xs.length) (hl' : xs.length ≤ 1000) :
    Calls Tryz.prog 36 #[.pointer (some ⟨g, 0, none⟩), .slice (some ⟨w.heap.size, 0, none⟩) xs.length xs.length] (w.alloc (.cells (xs.map (Value.string)).toArray 9)) (DrawS w g (P + 1) fun x => x ∈ xs) :=
  (c_of g P _ xs _ (h.alloc _) hp (RdS_lit w xs 9 xs.length) hl hl' (ne_of_new h.lt)).mono fun _ _ ⟨x, a, b, c, d⟩ => ⟨x, a, b, c, grownBy_trans (World.grownBy_alloc _ _ _) d⟩

end Go.Proofs.YtdfnclnjnmdboaaGreatDoor
