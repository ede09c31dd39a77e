/- Lemmas and contracts for ReadPage (Rd Draw Draw6): plain words on memory, contracts of the functions that the law reaches. No condition but what each states. -/
import Derived.Test.YtdgnhplaakjlgaaGreatDoorApp2
import Derived.Deep.QuietTactic
import Derived.BigQuiet
import Derived.Deep.Light
import Derived.WalkSmall
import Derived.Deep.Fields23
import Derived.Test.YtdgnhplaakjlgaaGreatDoorRound
namespace Go.Proofs.YtdgnhplaakjlgaaGreatDoor
set_option linter.unusedVariables false
open Go.RowKit

/-- block g holds a source: bytes that read as cs (each from 0 to 255), and a count p -/
def IsRd (w : World) (g : Nat) (p : Nat) : Prop :=
  ∃ (v : Value) (cs : List Int), w.heap[g]? = some (.cells #[v, .int .i64 p] 78 (0, 0)) ∧ RdL w v (cs.map (Value.int .u8)) ∧ cs.length ≤ 2000 ∧ (∀ n ∈ cs, 0 ≤ n ∧ n ≤ 255) ∧
    (cs = [] ∨ ∀ a n c, v = .slice (some a) n c → a.block < g)

theorem IsRd.lt {w : World} {g p : Nat} (h : IsRd w g p) : g < w.heap.size := by
  obtain ⟨v, cs, h, _⟩ := h
  by_cases hlt : g < w.heap.size
  · exact hlt
  · rw [Array.getElem?_eq_none (by omega)] at h; cases h
theorem IsRd.kept {w w' : World} {g p : Nat} (h : IsRd w g p) (hb : Below w.heap.size w w') : IsRd w' g p := by
  have hlt := h.lt
  obtain ⟨v, cs, h1, h2, h3⟩ := h
  exact ⟨v, cs, by rw [hb.block g hlt]; exact h1, h2.kept hb, h3⟩

theorem IsRd.drewN {w : World} {g p : Nat} (h : IsRd w g p) (n : Nat) : IsRd (w.drewN n) g p := h
theorem _root_.Go.World.grownBy.drewN {a w : World} {row : Option Nat} (h : a.grownBy w row) (n : Nat) : a.grownBy (w.drewN n) row := ⟨h.os, h.tape, h.output, h.size, h.block⟩
/-- a number is returned; the source's count has gone up; nothing else has been written -/
def PickR (w : World) (g p : Nat) (P : Int → Prop) (e : Ending) (w' : World) : Prop :=
  ∃ x : Int, e = .returned (.int .i64 x) ∧ P x ∧ IsRd w' g p ∧ w.grownBy w' (some g)

theorem heap_row_cell {w : World} {g : Nat} {v0 v1 : Value} {t : TypeId} (h : w.heap[g]? = some (.cells #[v0, v1] t (0, 0))) : w.cell? ⟨g, 0, none⟩ = some v0 ∧ w.cell? ⟨g, 1, none⟩ = some v1 ∧ w.frozen? ⟨g, 1, none⟩ = false ∧ w.frozen? ⟨g, 0, none⟩ = false := by
  refine ⟨?_, ?_, ?_, ?_⟩ <;> simp [World.cell?, World.frozen?, h]
theorem heap_row_set {w : World} {g : Nat} {v0 v1 u : Value} {t : TypeId} (h : w.heap[g]? = some (.cells #[v0, v1] t (0, 0))) : (w.setCell ⟨g, 1, none⟩ u).heap[g]? = some (.cells #[v0, u] t (0, 0)) := by
  simp [World.setCell, Array.getElem?_modify, h]
theorem RdL_setCell {w : World} {v u : Value} {xs : List Value} {g o : Nat} (h : RdL w v xs) (hne : xs = [] ∨ ∀ a n c, v = .slice (some a) n c → a.block < g) : RdL (w.setCell ⟨g, o, none⟩ u) v xs := by
  obtain ⟨a, cap, rfl, h⟩ := h
  refine ⟨a, cap, rfl, ?_⟩
  rcases h with h | ⟨b, off, rfl, hlt, h⟩
  · exact .inl h
  · by_cases hx : xs = []
    · exact .inl hx
    have hb := hne.resolve_left hx _ _ _ rfl
    simp at hb
    refine .inr ⟨b, off, rfl, by simpa [World.setCell] using hlt, fun i hi => ?_⟩
    rw [World.cell?_setCell_other _ _ _ _ (by simp only [ne_eq, Addr.mk.injEq]; omega)]
    exact h i hi

theorem xor_nonneg (a b : Int) (ha : 0 ≤ a) (ha' : a ≤ 9223372036854775807) (hb : 0 ≤ b) (hb' : b ≤ 9223372036854775807) : ∃ x, 0 ≤ x ∧ x ≤ 9223372036854775807 ∧ bits BinOp.xor IntKind.i64 a b = x := by
  have e : ((BitVec.ofInt 64 a ^^^ BitVec.ofInt 64 b).toNat) < 2 ^ 63 := by
    rw [BitVec.toNat_xor]
    apply Nat.xor_lt_two_pow
    · rw [BitVec.toNat_ofInt]; omega
    · rw [BitVec.toNat_ofInt]; omega
  have h0 : bits BinOp.xor IntKind.i64 a b = IntKind.i64.wrap ((BitVec.ofInt 64 a ^^^ BitVec.ofInt 64 b).toNat : Int) := rfl
  have h : bits BinOp.xor IntKind.i64 a b = ((BitVec.ofInt 64 a ^^^ BitVec.ofInt 64 b).toNat : Int) := h0.trans (IntWalk.i64_in _ (by omega))
  exact ⟨_, by omega, by omega, h⟩

set_option maxRecDepth 20000 in
set_option maxHeartbeats 400000 in
theorem c_pick (g p : Nat) (n : Int) (w : World) (h : IsRd w g p) (hp : p ≤ 1000000) :
    Calls Tryz.prog 23 #[.pointer (some ⟨g, 0, none⟩), (.int .i64 (n))] w (PickR w g (p + 1) fun x => 0 ≤ x ∧ (x < n ∨ x = 0)) := by
  have hlt := h.lt
  obtain ⟨v, cs, h1, h2, h3, h4, h5⟩ := h
  obtain ⟨k0, k1, k2, k3⟩ := heap_row_cell h1
  have HO : Hid (IsRd (w.setCell ⟨g, 1, none⟩ (.int .i64 ((p + 1 : Nat) : Int))) g (p + 1) ∧ w.grownBy (w.setCell ⟨g, 1, none⟩ (.int .i64 ((p + 1 : Nat) : Int))) (some g)) :=
    ⟨⟨v, cs, heap_row_set h1, RdL_setCell h2 (h5.imp (fun e => by rw [e]; rfl) id), h3, h4, h5⟩, grownBy_setCell _ _ _ _⟩
  obtain ⟨a, cap, rfl, h2⟩ := h2
  simp only [List.length_map] at k0 HO ⊢
  clear h1
  by_cases hn : n < 1
  · go_enter Tryz.func23, Tryz.ntmps23
    go_wp2
    go_ret
    exact ⟨0, rfl, ⟨Int.le_refl _, .inr rfl⟩, HO.out.1, HO.out.2⟩
  · by_cases hc : cs.length = 0
    · have hc' : ((cs.length : Int) == 0) = true := beq_iff_eq.2 (by omega)
      go_enter Tryz.func23, Tryz.ntmps23
      go_wp2
      go_ret
      exact ⟨0, rfl, ⟨Int.le_refl _, .inr rfl⟩, HO.out.1, HO.out.2⟩
    · have hc' : ((cs.length : Int) == 0) = false := beq_eq_false_iff_ne.2 (by omega)
      have hcn : cs ≠ [] := fun e => hc (by simp [e])
      obtain ⟨b, off, rfl, hb, h2⟩ : ∃ b off, a = some ⟨b, off, none⟩ ∧ b < w.heap.size ∧ ∀ i, i < cs.length → w.cell? ⟨b, off + i, none⟩ = some (.int .u8 (cs.getD i 0)) := by
        rcases h2 with h2 | ⟨b, off, rfl, hb, h2⟩
        · exact absurd (by simpa using h2) hcn
        · exact ⟨b, off, rfl, hb, fun i hi => by rw [h2 i (by simpa using hi)]; simp [List.getD, hi]⟩
      have hbg : b < g := h5.resolve_left hcn _ _ _ rfl
      have h6 : ∀ i, i < cs.length → (w.setCell ⟨g, 1, none⟩ (.int .i64 ((p : Int) + 1))).cell? ⟨b, off + i, none⟩ = some (.int .u8 (cs.getD i 0)) := fun i hi => by
        rw [World.cell?_setCell_other _ _ _ _ (by simp only [ne_eq, Addr.mk.injEq]; omega)]
        exact h2 i hi
      have h7 : ∀ i, i < cs.length → 0 ≤ cs.getD i 0 ∧ cs.getD i 0 ≤ 255 := fun i hi => h4 _ (by simp [List.getD, hi])
      clear h2 h4 h5 hcn
      by_cases hpl : p < cs.length
      · have e1 := h6 p hpl
        obtain ⟨y1, y2⟩ := h7 p hpl
        generalize cs.getD p 0 = y at e1 y1 y2
        clear h6 h7
        have hr0 : (n = 0) = False := by simp; omega
        have m1 := Int.emod_nonneg y (b := n) (by omega)
        have m2 := Int.emod_lt_of_pos y (b := n) (by omega)
        go_enter Tryz.func23, Tryz.ntmps23
        go_wp2
        go_ret
        exact ⟨y % n, rfl, ⟨m1, .inl m2⟩, HO.out.1, HO.out.2⟩
      · have e1 := h6 (p % cs.length) (Nat.mod_lt _ (by omega))
        have e2 := h6 ((p * 7 + 3) % cs.length) (Nat.mod_lt _ (by omega))
        obtain ⟨y1, y2⟩ := h7 (p % cs.length) (Nat.mod_lt _ (by omega))
        obtain ⟨z1, z2⟩ := h7 ((p * 7 + 3) % cs.length) (Nat.mod_lt _ (by omega))
        have l1 : p % cs.length < cs.length := Nat.mod_lt _ (by omega)
        have l2 : (p * 7 + 3) % cs.length < cs.length := Nat.mod_lt _ (by omega)
        have t1 : (p : Int).tmod (cs.length : Int) = ((p % cs.length : Nat) : Int) := by rw [Int.tmod_eq_emod_of_nonneg (by omega)]; rfl
        have t2 : ((p : Int) * 7 + 3).tmod (cs.length : Int) = (((p * 7 + 3) % cs.length : Nat) : Int) := by rw [Int.tmod_eq_emod_of_nonneg (by omega)]; rfl
        generalize cs.getD (p % cs.length) 0 = y at e1 y1 y2
        generalize cs.getD ((p * 7 + 3) % cs.length) 0 = z at e2 z1 z2
        generalize p % cs.length = i at e1 l1 t1
        generalize (p * 7 + 3) % cs.length = j at e2 l2 t2
        clear h6 h7
        have hr0 : (n = 0) = False := by simp; omega
        have hr1 : ((cs.length : Int) = 0) = False := eq_false (by omega)
        have hr2 : (cs.length = 0) = False := eq_false (by omega)
        have d1 : (0 : Int) ≤ (p : Int) / (cs.length : Int) := Int.ediv_nonneg (by omega) (by omega)
        have d2 : (p : Int) / (cs.length : Int) ≤ 1000000 := Int.le_trans (Int.ediv_le_self _ (by omega)) (by omega)
        go_enter Tryz.func23, Tryz.ntmps23
        go_wp2
        have i1 : (0 : Int) ≤ (i : Int) := by omega
        have i2 : (i : Int) < (cs.length : Int) := by omega
        have i3 : (0 : Int) ≤ (j : Int) := by omega
        have i4 : (j : Int) < (cs.length : Int) := by omega
        go_quiet (fail)
        clear t1 t2 e1 e2 k0 k1 k2 k3
        generalize hD : (p : Int) / (cs.length : Int) = D at *
        obtain ⟨X, x1, x2, hX⟩ := xor_nonneg (y * 131 + z * 1117 + (p : Int) * 29 + D * 53) ((y * 131 + z * 1117 + (p : Int) * 29 + D * 53) / 64) (by omega) (by omega) (by omega) (by omega)
        have m1 := Int.emod_nonneg X (b := n) (by omega)
        have m2 := Int.emod_lt_of_pos X (b := n) (by omega)
        have HD : Hid (_ = D) := hD
        clear hD
        go_wp2
        go_ret
        exact ⟨X % n, rfl, ⟨m1, .inl m2⟩, HO.out.1.drewN _, HO.out.2.drewN _⟩
end Go.Proofs.YtdgnhplaakjlgaaGreatDoor

namespace Go.Proofs.YtdgnhplaakjlgaaGreatDoor
set_option linter.unusedVariables false
open Go.RowKit

/-- block g holds a source whose count is at most P -/
def IsRdB (w : World) (g P : Nat) : Prop := ∃ p, p ≤ P ∧ IsRd w g p
theorem IsRdB.kept {w w' : World} {g P : Nat} (h : IsRdB w g P) (hb : Below w.heap.size w w') : IsRdB w' g P := let ⟨p, h1, h2⟩ := h; ⟨p, h1, h2.kept hb⟩
theorem IsRdB.alloc {w : World} {g P : Nat} (h : IsRdB w g P) (o : Obj) : IsRdB (w.alloc o) g P := h.kept ((Below.refl _ _).alloc (Nat.le_refl _) _)
theorem IsRdB.mono {w : World} {g P P' : Nat} (h : IsRdB w g P) (hp : P ≤ P') : IsRdB w g P' := let ⟨p, h1, h2⟩ := h; ⟨p, by omega, h2⟩
theorem IsRdB.lt {w : World} {g P : Nat} (h : IsRdB w g P) : g < w.heap.size := let ⟨_, _, h2⟩ := h; h2.lt
/-- a number with a property is drawn: the source's block alone is written, blocks may be new -/
def DrawI (w : World) (g P : Nat) (Q : Int → Prop) (e : Ending) (w' : World) : Prop :=
  ∃ x : Int, e = .returned (.int .i64 x) ∧ Q x ∧ IsRdB w' g P ∧ w.grownBy w' (some g)

theorem d_pick (g P : Nat) (n : Int) (w : World) (h : IsRdB w g P) (hp : P ≤ 1000000) :
    Calls Tryz.prog 23 #[.pointer (some ⟨g, 0, none⟩), (.int .i64 (n))] w (DrawI w g (P + 1) fun x => 0 ≤ x ∧ (x < n ∨ x = 0)) := by
  obtain ⟨p, h1, h2⟩ := h
  exact (c_pick g p n w h2 (by omega)).mono fun _ _ ⟨x, a, b, c, d⟩ => ⟨x, a, b, ⟨p + 1, by omega, c⟩, d⟩

theorem RdL_grown {w w' : World} {v : Value} {xs : List Value} {g : Nat} (h : RdL w v xs) (hg : w.grownBy w' (some g)) (hne : ∀ a n c, v = .slice (some a) n c → a.block ≠ g) : RdL w' v xs := by
  obtain ⟨a, cap, rfl, h⟩ := h
  refine ⟨a, cap, rfl, ?_⟩
  rcases h with h | ⟨b, off, rfl, hlt, h⟩
  · exact .inl h
  · refine .inr ⟨b, off, rfl, by have := hg.size; omega, fun i hi => ?_⟩
    have hb : w'.heap[b]? = w.heap[b]? := hg.block b hlt (fun e => hne _ _ _ rfl (by cases e; rfl))
    rw [World.cell?_of_block (w := w) (a := ⟨b, off + i, none⟩) hb]
    exact h i hi
theorem RdI_lit (w : World) (xs : List Int) (t : TypeId) (c : Nat) : RdI (w.alloc (.cells (xs.map (Value.int .i64)).toArray t)) (.slice (some ⟨w.heap.size, 0, none⟩) xs.length c) xs := by
  refine ⟨some ⟨w.heap.size, 0, none⟩, c, by simp, ?_⟩
  by_cases h : xs = []
  · left; simp [h]
  · right
    refine ⟨w.heap.size, 0, rfl, by simp, fun i hi => ?_⟩
    simp [go_sem, World.cell?_alloc_at]

set_option maxRecDepth 20000 in
theorem c_num (g P : Nat) (v : Value) (xs : List Int) (w : World) (h : IsRdB w g P) (hp : P ≤ 1000000) (hv : RdI w v xs) (hl : 0 < xs.length) (hl' : xs.length ≤ 1000) (hne : ∀ a n c, v = .slice (some a) n c → a.block ≠ g) :
    Calls Tryz.prog 55 #[.pointer (some ⟨g, 0, none⟩), v] w (DrawI w g (P + 1) fun x => x ∈ xs) := by
  have hv0 := hv
  obtain ⟨a, cap, rfl, hv2⟩ := hv0
  simp only [List.length_map] at hv hne ⊢
  clear hv2
  go_enter Tryz.func55, Tryz.ntmps55
  go_wp2_with fail
  refine (d_pick g P _ w h hp).mono ?_
  rintro e w1 ⟨x, rfl, ⟨hx0, hx1⟩, hr, hg⟩
  have hx2 : x < xs.length := by omega
  obtain ⟨k, rfl⟩ : ∃ k : Nat, x = k := ⟨x.toNat, by omega⟩
  have hv1 : RdI w1 (.slice a xs.length cap) xs := RdL_grown hv hg hne
  rcases hv1.op with ⟨a', c', e1, e2⟩ | ⟨b, off, c', e1, hb, hc⟩
  · rw [e2] at hl; simp at hl
  · simp only [Value.slice.injEq] at e1
    obtain ⟨rfl, _, rfl⟩ := e1
    have hk : k < xs.length := by omega
    have e1 := hc k hk
    have hm : xs.getD k 0 ∈ xs := by simp [List.getD, hk]
    generalize xs.getD k 0 = y at e1 hm
    have HO : Hid (y ∈ xs ∧ IsRdB w1 g (P + 1) ∧ w.grownBy w1 (some g)) := ⟨hm, hr, hg⟩
    clear hc hm hr hg hv hv1 h
    go_wp2
    go_ret
    exact ⟨y, rfl, HO.out.1, HO.out.2.1, HO.out.2.2⟩

def OpenR (w : World) (e : Ending) (w' : World) : Prop := ∃ g, e = .returned (.pointer (some ⟨g, 0, none⟩)) ∧ IsRdB w' g 0 ∧ w.heap.size ≤ g ∧ Below w.heap.size w w'
theorem openR_of {w : World} {a : Option Addr} {n cap : Nat} {cs : List Int} (hv : RdL w (.slice a n cap) (cs.map (Value.int .u8))) (hl : cs.length ≤ 2000) (hb' : ∀ n ∈ cs, 0 ≤ n ∧ n ≤ 255) :
    OpenR w (.returned (.pointer (some ⟨w.heap.size, 0, none⟩))) (w.alloc (.cells #[.slice a n cap, .int .i64 0] 78)) := by
  refine ⟨w.heap.size, rfl, ⟨0, Nat.le_refl _, ⟨.slice a n cap, cs, heap_alloc_new w _, hv.kept ((Below.refl _ _).alloc (Nat.le_refl _) _), hl, hb', ?_⟩⟩, Nat.le_refl _, (Below.refl _ _).alloc (Nat.le_refl _) _⟩
  by_cases hc : cs = []
  · exact .inl hc
  · right
    obtain ⟨a2, cap2, e, h⟩ := hv
    rcases h with h | ⟨b, off, rfl, hlt, h⟩
    · exact absurd (by simpa using h) hc
    · intro a' n' c' e'
      rw [e] at e'
      simp only [Value.slice.injEq, Option.some.injEq] at e'
      obtain ⟨rfl, _, _⟩ := e'
      exact hlt
theorem RdL_take {w : World} {a : Option Addr} {n cap k : Nat} {xs : List Value} (h : RdL w (.slice a n cap) xs) (hk : k ≤ xs.length) : RdL w (.slice a k cap) (xs.take k) := by
  obtain ⟨a2, cap2, e, h⟩ := h
  simp only [Value.slice.injEq] at e
  obtain ⟨rfl, _, rfl⟩ := e
  refine ⟨a, cap, by simp [Nat.min_eq_left hk], ?_⟩
  rcases h with h | ⟨b, off, rfl, hlt, h⟩
  · exact .inl (by simp [h])
  · refine .inr ⟨b, off, rfl, hlt, fun i hi => ?_⟩
    have hi' : i < k ∧ i < xs.length := by simp at hi; omega
    rw [h i hi'.2, List.getElem?_take, if_pos hi'.1]
set_option maxRecDepth 20000 in
theorem c_l9Open (v : Value) (cs : List Int) (w : World) (hv : RdL w v (cs.map (Value.int .u8))) (hl : cs.length ≤ 1099511627776) (hb : ∀ n ∈ cs, (Lit.int .u8 n).wf = true) (hcap : CapOk v) :
    Calls Tryz.prog 20 #[v] w (OpenR w) := by
  have hb' : ∀ n ∈ cs, 0 ≤ n ∧ n ≤ 255 := fun n hn => by simpa [Lit.wf, IntKind.min, IntKind.max, IntKind.signed, IntKind.bits] using hb n hn
  have hv0 := hv
  obtain ⟨a, cap, rfl, hv2⟩ := hv0
  simp only [List.length_map] at hv hcap ⊢
  have hcc : cs.length ≤ cap := hcap _ _ _ rfl
  clear hb hcap hv2
  by_cases hlt : 2000 < cs.length
  · have hv3 := RdL_take (k := 2000) hv (by simp; omega)
    rw [← List.map_take] at hv3
    have HO := openR_of hv3 (by simp; omega) (fun n hn => hb' n (List.mem_of_mem_take hn))
    have HO : Hid _ := HO
    clear hv hv3 hb'
    go_enter Tryz.func20, Tryz.ntmps20
    go_wp2
    go_ret
    exact HO.out
  · have HO := openR_of hv (by omega) hb'
    have HO : Hid _ := HO
    clear hv hb'
    go_enter Tryz.func20, Tryz.ntmps20
    go_wp2
    go_ret
    exact HO.out
end Go.Proofs.YtdgnhplaakjlgaaGreatDoor

namespace Go.Proofs.YtdgnhplaakjlgaaGreatDoor
set_option linter.unusedVariables false
open Go.RowKit

/-- two numbers are drawn -/
def DrawII (w : World) (g P : Nat) (Q : Int → Int → Prop) (e : Ending) (w' : World) : Prop :=
  ∃ x y : Int, e = .returned (.tuple #[.int .i64 x, .int .i64 y]) ∧ Q x y ∧ IsRdB w' g P ∧ w.grownBy w' (some g)
theorem ne_of_new {w : World} {g n c : Nat} (h : g < w.heap.size) : ∀ a l k, Value.slice (some ⟨w.heap.size, 0, none⟩) n c = .slice (some a) l k → a.block ≠ g := by
  intro a l k e
  simp only [Value.slice.injEq, Option.some.injEq] at e
  obtain ⟨rfl, _, _⟩ := e
  show w.heap.size ≠ g
  omega
theorem DrawI.mono {w w' : World} {g P P' : Nat} {Q : Int → Prop} {e : Ending} (h : DrawI w g P Q e w') (hp : P ≤ P') : DrawI w g P' Q e w' := let ⟨x, a, b, c, d⟩ := h; ⟨x, a, b, c.mono hp, d⟩

/-- a drawn element of a written list -/
theorem d_numlit (g P : Nat) (xs : List Int) (w : World) (h : IsRdB w g P) (hp : P ≤ 1000000) (hl : 0 < xs.length) (hl' : xs.length ≤ 1000) :
    Calls Tryz.prog 55 #[.pointer (some ⟨g, 0, none⟩), .slice (some ⟨w.heap.size, 0, none⟩) xs.length xs.length] (w.alloc (.cells (xs.map (Value.int .i64)).toArray 3)) (DrawI w g (P + 1) fun x => x ∈ xs) :=
  (c_num g P _ xs _ (h.alloc _) hp (RdI_lit w xs 3 xs.length) hl hl' (ne_of_new h.lt)).mono fun _ _ ⟨x, a, b, c, d⟩ => ⟨x, a, b, c, grownBy_trans (World.grownBy_alloc _ _ _) d⟩

set_option maxRecDepth 20000 in
theorem c_l6Guard (g P : Nat) (w : World) (h : IsRdB w g P) (hp : P ≤ 900000) :
    Calls Tryz.prog 39 #[.pointer (some ⟨g, 0, none⟩)] w (DrawII w g (P + 3) fun x y => -1 ≤ x ∧ x ≤ 7 ∧ -1 ≤ y ∧ y ≤ 9223372036854775807) := by
  go_enter Tryz.func39, Tryz.ntmps39
  go_wp2_with fail
  refine (d_pick g P _ w h (by omega)).mono ?_
  rintro e w1 ⟨x, rfl, ⟨hx0, hx1⟩, hr1, hg1⟩
  by_cases hx : x = 0
  · subst hx
    go_wp2_with fail
    refine (d_numlit g (P + 1) [-1, 7, 6, 0] w1 hr1 (by omega) (by decide) (by decide)).mono ?_
    rintro e w2 ⟨y, rfl, hy, hr2, hg2⟩
    go_wp2_with fail
    refine (d_numlit g (P + 2) [-1, 3, 0, 9223372036854775807] w2 hr2 (by omega) (by decide) (by decide)).mono ?_
    rintro e w3 ⟨z, rfl, hz, hr3, hg3⟩
    have HO : Hid ((-1 ≤ y ∧ y ≤ 7 ∧ -1 ≤ z ∧ z ≤ 9223372036854775807) ∧ IsRdB w3 g (P + 3) ∧ w.grownBy w3 (some g)) := by
      refine ⟨?_, hr3, grownBy_trans (grownBy_trans hg1 hg2) hg3⟩
      simp at hy hz
      omega
    clear hy hz
    go_wp2
    go_ret2
    exact ⟨y, z, rfl, HO.out.1, HO.out.2.1, HO.out.2.2⟩
  · have hx' : (x == 0) = false := beq_eq_false_iff_ne.2 hx
    clear hx
    go_wp2_with fail
    refine (d_numlit g (P + 1) [1, 2, 3, 0] w1 hr1 (by omega) (by decide) (by decide)).mono ?_
    rintro e w2 ⟨y, rfl, hy, hr2, hg2⟩
    go_wp2_with fail
    refine (d_pick g (P + 2) _ w2 hr2 (by omega)).mono ?_
    rintro e w3 ⟨z, rfl, hz, hr3, hg3⟩
    have HO : Hid ((-1 ≤ y ∧ y ≤ 7 ∧ -1 ≤ z ∧ z ≤ 9223372036854775807) ∧ IsRdB w3 g (P + 3) ∧ w.grownBy w3 (some g)) := by
      refine ⟨?_, hr3, grownBy_trans (grownBy_trans hg1 hg2) hg3⟩
      simp at hy
      omega
    clear hy hz
    go_wp2
    go_ret2
    exact ⟨y, z, rfl, HO.out.1, HO.out.2.1, HO.out.2.2⟩

def DrawRR (w : World) (e : Ending) (w' : World) : Prop := ∃ n d way : Int, e = .returned (.tuple #[.int .i64 n, .int .i64 d, .int .i64 way]) ∧ (-1 ≤ d ∧ d ≤ 7) ∧ Below w.heap.size w w'
set_option maxRecDepth 20000 in
theorem c_deTen (k : Nat) (w : World) (hk : k ≤ 17) :
    Calls Tryz.prog 19 #[(.int .i64 ((k : Int)))] w fun e w' => e = .returned (.int .i64 (ten k)) ∧ w = w' := by
  go_enter Tryz.func19, Tryz.ntmps19
  go_wp2
  go_loop [3, 4] (fun p i => ∃ j : Nat, j ≤ k ∧ i = .int .i64 j ∧ p = .int .i64 (ten j)) (fun _ i => k - (intOf i).toNat)
  case atStart => exact ⟨0, by omega, rfl, rfl⟩
  case round =>
    obtain ⟨j, hj, rfl, rfl⟩ := hrel
    by_cases hlt : j < k
    · obtain ⟨h1, h2⟩ := ten_bd (k := j) (by omega)
      have e : Hid (ten (j + 1) = ten j * 10) := ten_succ j
      go_wp2
      go_round
      case rel => exact ⟨j + 1, by omega, by go_num, by rw [e.out]⟩
      case measure => simp [intOf]; omega
    · have e : Hid (ten k = ten j) := by have : j = k := by omega
                                         subst this; rfl
      go_wp2
      go_ret
      exact ⟨ret_int e.out.symm, rfl⟩
set_option maxRecDepth 20000 in
/-- a negative number of digits: one -/
theorem c_deTen_neg (d : Int) (w : World) (hd : d < 0) :
    Calls Tryz.prog 19 #[(.int .i64 (d))] w fun e w' => e = .returned (.int .i64 (1)) ∧ w = w' := by
  go_enter Tryz.func19, Tryz.ntmps19
  go_wp2
  refine wp_loop_rounds 1 ?_
  rw [rounds_succ]
  go_wp2
  go_ret
  exact ⟨rfl, rfl⟩
/-- for any drawn number of digits: something from 1 on -/
theorem c_deTen_any (d : Int) (w : World) (hd : -1 ≤ d) (hd' : d ≤ 7) :
    Calls Tryz.prog 19 #[(.int .i64 (d))] w fun e w' => e = .returned (.int .i64 (ten d.toNat)) ∧ w = w' := by
  by_cases h : d < 0
  · have h0 : ten d.toNat = 1 := by
      have : d.toNat = 0 := by omega
      rw [this]; rfl
    rw [h0]
    exact c_deTen_neg d w h
  · obtain ⟨k, rfl⟩ : ∃ k : Nat, d = k := ⟨d.toNat, by omega⟩
    simpa using c_deTen k w (by omega)
end Go.Proofs.YtdgnhplaakjlgaaGreatDoor
