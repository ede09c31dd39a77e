/- Contracts of the reference's source of drawn numbers: what it returns lies in its bounds; nothing but its own count is written. -/
import Derived.Test.YtdfnclnjnmdboaaGreatDoorApp2
import Derived.Deep.QuietTactic
import Derived.BigQuiet
import Derived.Deep.Light
import Derived.WalkSmall
import Derived.Deep.Fields23
namespace Go.Proofs.YtdfnclnjnmdboaaGreatDoor
set_option linter.unusedVariables false
open Go.RowKit

/-- block g holds a source: bytes that read as cs (each from 0 to 255), and a count p -/
def IsRd (w : World) (g : Nat) (p : Nat) : Prop :=
  ∃ (v : Value) (cs : List Int), w.heap[g]? = some (.cells #[v, .int .i64 p] 99 (0, 0)) ∧ RdL w v (cs.map (Value.int .u8)) ∧ cs.length ≤ 2000 ∧ (∀ n ∈ cs, 0 ≤ n ∧ n ≤ 255) ∧
    (cs = [] ∨ ∀ a n c, v = .slice (some a) n c → a.block < g)

theorem IsRd.lt {w : World} {g p : Nat} (h : IsRd w g p) : g < w.heap.size := by
  obtain ⟨v, cs, h, _⟩ := h
  by_cases hlt : g < w.heap.size
  · exact hlt
  · rw [Array.getElem?_eq_none (by omega)] at h; cases h
theorem IsRd.kept {w w' : World} {g p : Nat} (h : IsRd w g p) (hb : Below w.heap.size w w') : IsRd w' g p := by
  have hlt := h.lt
  obtain ⟨v, cs, h1, h2, h3⟩ := h
  exact ⟨v, cs, by rw [hb.block g hlt]; exact h1, h2.kept hb, h3⟩

theorem IsRd.drewN {w : World} {g p : Nat} (h : IsRd w g p) (n : Nat) : IsRd (w.drewN n) g p := h
theorem _root_.Go.World.grownBy.drewN {a w : World} {row : Option Nat} (h : a.grownBy w row) (n : Nat) : a.grownBy (w.drewN n) row := ⟨h.os, h.tape, h.output, h.size, h.block⟩
/-- a number is returned; the source's count has gone up; nothing else has been written -/
def PickR (w : World) (g p : Nat) (P : Int → Prop) (e : Ending) (w' : World) : Prop :=
  ∃ x : Int, e = .returned (.int .i64 x) ∧ P x ∧ IsRd w' g p ∧ w.grownBy w' (some g)

theorem heap_row_cell {w : World} {g : Nat} {v0 v1 : Value} {t : TypeId} (h : w.heap[g]? = some (.cells #[v0, v1] t (0, 0))) : w.cell? ⟨g, 0, none⟩ = some v0 ∧ w.cell? ⟨g, 1, none⟩ = some v1 ∧ w.frozen? ⟨g, 1, none⟩ = false ∧ w.frozen? ⟨g, 0, none⟩ = false := by
  refine ⟨?_, ?_, ?_, ?_⟩ <;> simp [World.cell?, World.frozen?, h]
theorem heap_row_set {w : World} {g : Nat} {v0 v1 u : Value} {t : TypeId} (h : w.heap[g]? = some (.cells #[v0, v1] t (0, 0))) : (w.setCell ⟨g, 1, none⟩ u).heap[g]? = some (.cells #[v0, u] t (0, 0)) := by
  simp [World.setCell, Array.getElem?_modify, h]
theorem RdL_setCell {w : World} {v u : Value} {xs : List Value} {g o : Nat} (h : RdL w v xs) (hne : xs = [] ∨ ∀ a n c, v = .slice (some a) n c → a.block < g) : RdL (w.setCell ⟨g, o, none⟩ u) v xs := by
  obtain ⟨a, cap, rfl, h⟩ := h
  refine ⟨a, cap, rfl, ?_⟩
  rcases h with h | ⟨b, off, rfl, hlt, h⟩
  · exact .inl h
  · by_cases hx : xs = []
    · exact .inl hx
    have hb := hne.resolve_left hx _ _ _ rfl
    simp at hb
    refine .inr ⟨b, off, rfl, by simpa [World.setCell] using hlt, fun i hi => ?_⟩
    rw [World.cell?_setCell_other _ _ _ _ (by simp only [ne_eq, Addr.mk.injEq]; omega)]
    exact h i hi

theorem xor_nonneg (a b : Int) (ha : 0 ≤ a) (ha' : a ≤ 9223372036854775807) (hb : 0 ≤ b) (hb' : b ≤ 9223372036854775807) : ∃ x, 0 ≤ x ∧ x ≤ 9223372036854775807 ∧ bits BinOp.xor IntKind.i64 a b = x := by
  have e : ((BitVec.ofInt 64 a ^^^ BitVec.ofInt 64 b).toNat) < 2 ^ 63 := by
    rw [BitVec.toNat_xor]
    apply Nat.xor_lt_two_pow
    · rw [BitVec.toNat_ofInt]; omega
    · rw [BitVec.toNat_ofInt]; omega
  have h0 : bits BinOp.xor IntKind.i64 a b = IntKind.i64.wrap ((BitVec.ofInt 64 a ^^^ BitVec.ofInt 64 b).toNat : Int) := rfl
  have h : bits BinOp.xor IntKind.i64 a b = ((BitVec.ofInt 64 a ^^^ BitVec.ofInt 64 b).toNat : Int) := h0.trans (IntWalk.i64_in _ (by omega))
  exact ⟨_, by omega, by omega, h⟩

set_option maxRecDepth 20000 in
set_option maxHeartbeats 400000 in
theorem c_pick (g p : Nat) (n : Int) (w : World) (h : IsRd w g p) (hp : p ≤ 1000000) :
    Calls Tryz.prog 35 #[.pointer (some ⟨g, 0, none⟩), (.int .i64 (n))] w (PickR w g (p + 1) fun x => 0 ≤ x ∧ (x < n ∨ x = 0)) := by
  have hlt := h.lt
  obtain ⟨v, cs, h1, h2, h3, h4, h5⟩ := h
  obtain ⟨k0, k1, k2, k3⟩ := heap_row_cell h1
  have HO : Hid (IsRd (w.setCell ⟨g, 1, none⟩ (.int .i64 ((p + 1 : Nat) : Int))) g (p + 1) ∧ w.grownBy (w.setCell ⟨g, 1, none⟩ (.int .i64 ((p + 1 : Nat) : Int))) (some g)) :=
    ⟨⟨v, cs, heap_row_set h1, RdL_setCell h2 (h5.imp (fun e => by rw [e]; rfl) id), h3, h4, h5⟩, grownBy_setCell _ _ _ _⟩
  obtain ⟨a, cap, rfl, h2⟩ := h2
  simp only [List.length_map] at k0 HO ⊢
  clear h1
  by_cases hn : n < 1
  · go_enter Tryz.func35, Tryz.ntmps35
    go_wp2
    go_ret
    exact ⟨0, rfl, ⟨Int.le_refl _, .inr rfl⟩, HO.out.1, HO.out.2⟩
  · by_cases hc : cs.length = 0
    · have hc' : ((cs.length : Int) == 0) = true := beq_iff_eq.2 (by omega)
      go_enter Tryz.func35, Tryz.ntmps35
      go_wp2
      go_ret
      exact ⟨0, rfl, ⟨Int.le_refl _, .inr rfl⟩, HO.out.1, HO.out.2⟩
    · have hc' : ((cs.length : Int) == 0) = false := beq_eq_false_iff_ne.2 (by omega)
      have hcn : cs ≠ [] := fun e => hc (by simp [e])
      obtain ⟨b, off, rfl, hb, h2⟩ : ∃ b off, a = some ⟨b, off, none⟩ ∧ b < w.heap.size ∧ ∀ i, i < cs.length → w.cell? ⟨b, off + i, none⟩ = some (.int .u8 (cs.getD i 0)) := by
        rcases h2 with h2 | ⟨b, off, rfl, hb, h2⟩
        · exact absurd (by simpa using h2) hcn
        · exact ⟨b, off, rfl, hb, fun i hi => by rw [h2 i (by simpa using hi)]; simp [List.getD, hi]⟩
      have hbg : b < g := h5.resolve_left hcn _ _ _ rfl
      have h6 : ∀ i, i < cs.length → (w.setCell ⟨g, 1, none⟩ (.int .i64 ((p : Int) + 1))).cell? ⟨b, off + i, none⟩ = some (.int .u8 (cs.getD i 0)) := fun i hi => by
        rw [World.cell?_setCell_other _ _ _ _ (by simp only [ne_eq, Addr.mk.injEq]; omega)]
        exact h2 i hi
      have h7 : ∀ i, i < cs.length → 0 ≤ cs.getD i 0 ∧ cs.getD i 0 ≤ 255 := fun i hi => h4 _ (by simp [List.getD, hi])
      clear h2 h4 h5 hcn
      by_cases hpl : p < cs.length
      · have e1 := h6 p hpl
        obtain ⟨y1, y2⟩ := h7 p hpl
        generalize cs.getD p 0 = y at e1 y1 y2
        clear h6 h7
        have hr0 : (n = 0) = False := by simp; omega
        have m1 := Int.emod_nonneg y (b := n) (by omega)
        have m2 := Int.emod_lt_of_pos y (b := n) (by omega)
        go_enter Tryz.func35, Tryz.ntmps35
        go_wp2
        go_ret
        exact ⟨y % n, rfl, ⟨m1, .inl m2⟩, HO.out.1, HO.out.2⟩
      · have e1 := h6 (p % cs.length) (Nat.mod_lt _ (by omega))
        have e2 := h6 ((p * 7 + 3) % cs.length) (Nat.mod_lt _ (by omega))
        obtain ⟨y1, y2⟩ := h7 (p % cs.length) (Nat.mod_lt _ (by omega))
        obtain ⟨z1, z2⟩ := h7 ((p * 7 + 3) % cs.length) (Nat.mod_lt _ (by omega))
        have l1 : p % cs.length < cs.length := Nat.mod_lt _ (by omega)
        have l2 : (p * 7 + 3) % cs.length < cs.length := Nat.mod_lt _ (by omega)
        have t1 : (p : Int).tmod (cs.length : Int) = ((p % cs.length : Nat) : Int) := by rw [Int.tmod_eq_emod_of_nonneg (by omega)]; rfl
        have t2 : ((p : Int) * 7 + 3).tmod (cs.length : Int) = (((p * 7 + 3) % cs.length : Nat) : Int) := by rw [Int.tmod_eq_emod_of_nonneg (by omega)]; rfl
        generalize cs.getD (p % cs.length) 0 = y at e1 y1 y2
        generalize cs.getD ((p * 7 + 3) % cs.length) 0 = z at e2 z1 z2
        generalize p % cs.length = i at e1 l1 t1
        generalize (p * 7 + 3) % cs.length = j at e2 l2 t2
        clear h6 h7
        have hr0 : (n = 0) = False := by simp; omega
        have hr1 : ((cs.length : Int) = 0) = False := eq_false (by omega)
        have hr2 : (cs.length = 0) = False := eq_false (by omega)
        have d1 : (0 : Int) ≤ (p : Int) / (cs.length : Int) := Int.ediv_nonneg (by omega) (by omega)
        have d2 : (p : Int) / (cs.length : Int) ≤ 1000000 := Int.le_trans (Int.ediv_le_self _ (by omega)) (by omega)
        go_enter Tryz.func35, Tryz.ntmps35
        go_wp2
        have i1 : (0 : Int) ≤ (i : Int) := by omega
        have i2 : (i : Int) < (cs.length : Int) := by omega
        have i3 : (0 : Int) ≤ (j : Int) := by omega
        have i4 : (j : Int) < (cs.length : Int) := by omega
        go_quiet (fail)
        clear t1 t2 e1 e2 k0 k1 k2 k3
        generalize hD : (p : Int) / (cs.length : Int) = D at *
        obtain ⟨X, x1, x2, hX⟩ := xor_nonneg (y * 131 + z * 1117 + (p : Int) * 29 + D * 53) ((y * 131 + z * 1117 + (p : Int) * 29 + D * 53) / 64) (by omega) (by omega) (by omega) (by omega)
        have m1 := Int.emod_nonneg X (b := n) (by omega)
        have m2 := Int.emod_lt_of_pos X (b := n) (by omega)
        have HD : Hid (_ = D) := hD
        clear hD
        go_wp2
        go_ret
        exact ⟨X % n, rfl, ⟨m1, .inl m2⟩, HO.out.1.drewN _, HO.out.2.drewN _⟩
end Go.Proofs.YtdfnclnjnmdboaaGreatDoor
