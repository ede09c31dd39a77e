/- Lemmas and contracts for ReadPage (DrawS Last DrawRP): plain words on memory, contracts of the functions that the law reaches. No condition but what each states. -/
import Derived.Test.YtdgnhplaakjlgaaGreatDoorMReadPageRd
import Derived.Test.YtdgnhplaakjlgaaGreatDoorRows1
import Derived.Test.YtdgnhplaakjlgaaGreatDoorFrame
import Derived.Deep.RegionHeld3
import Derived.Test.YtdgnhplaakjlgaaGreatDoorMReadPageDrawL
import Derived.Test.YtdgnhplaakjlgaaGreatDoorPg4
import Derived.Test.YtdgnhplaakjlgaaGreatDoorPtP
import Derived.Test.YtdgnhplaakjlgaaGreatDoorShort2
namespace Go.Proofs.YtdgnhplaakjlgaaGreatDoor
set_option linter.unusedVariables false
open Go.RowKit

/-- a string with a property is drawn: the source's block alone is written, blocks may be new -/
def DrawS (w : World) (g P : Nat) (Q : ByteArray → Prop) (e : Ending) (w' : World) : Prop :=
  ∃ x : ByteArray, e = .returned (.string x) ∧ Q x ∧ IsRdB w' g P ∧ w.grownBy w' (some g)
theorem RdS_lit (w : World) (xs : List ByteArray) (t : TypeId) (c : Nat) : RdS (w.alloc (.cells (xs.map (Value.string)).toArray t)) (.slice (some ⟨w.heap.size, 0, none⟩) xs.length c) xs := by
  refine ⟨some ⟨w.heap.size, 0, none⟩, c, by simp, ?_⟩
  by_cases h : xs = []
  · left; simp [h]
  · right
    refine ⟨w.heap.size, 0, rfl, by simp, fun i hi => ?_⟩
    simp [go_sem, World.cell?_alloc_at]

set_option maxRecDepth 20000 in
theorem c_of (g P : Nat) (v : Value) (xs : List ByteArray) (w : World) (h : IsRdB w g P) (hp : P ≤ 1000000) (hv : RdS w v xs) (hl : 0 < xs.length) (hl' : xs.length ≤ 1000) (hne : ∀ a n c, v = .slice (some a) n c → a.block ≠ g) :
    Calls Tryz.prog 24 #[.pointer (some ⟨g, 0, none⟩), v] w (DrawS w g (P + 1) fun x => x ∈ xs) := by
  have hv0 := hv
  obtain ⟨a, cap, rfl, hv2⟩ := hv0
  simp only [List.length_map] at hv hne ⊢
  clear hv2
  go_enter Tryz.func24, Tryz.ntmps24
  go_wp2_with fail
  refine (d_pick g P _ w h hp).mono ?_
  rintro e w1 ⟨x, rfl, ⟨hx0, hx1⟩, hr, hg⟩
  have hx2 : x < xs.length := by omega
  obtain ⟨k, rfl⟩ : ∃ k : Nat, x = k := ⟨x.toNat, by omega⟩
  have hv1 : RdS w1 (.slice a xs.length cap) xs := RdL_grown hv hg hne
  rcases hv1.op with ⟨a', c', e1, e2⟩ | ⟨b, off, c', e1, hb, hc⟩
  · rw [e2] at hl; simp at hl
  · simp only [Value.slice.injEq] at e1
    obtain ⟨rfl, _, rfl⟩ := e1
    have hk : k < xs.length := by omega
    have e1 := hc k hk
    have hm : xs.getD k noS ∈ xs := by simp [List.getD, hk]
    generalize xs.getD k noS = y at e1 hm
    have HO : Hid (y ∈ xs ∧ IsRdB w1 g (P + 1) ∧ w.grownBy w1 (some g)) := ⟨hm, hr, hg⟩
    clear hc hm hr hg hv hv1 h
    go_wp2
    go_ret
    exact ⟨y, rfl, HO.out.1, HO.out.2.1, HO.out.2.2⟩

theorem d_strlit (g P : Nat) (xs : List ByteArray) (w : World) (h : IsRdB w g P) (hp : P ≤ 1000000) (hl : 0 < xs.length) (hl' : xs.length ≤ 1000) :
    Calls Tryz.prog 24 #[.pointer (some ⟨g, 0, none⟩), .slice (some ⟨w.heap.size, 0, none⟩) xs.length xs.length] (w.alloc (.cells (xs.map (Value.string)).toArray 9)) (DrawS w g (P + 1) fun x => x ∈ xs) :=
  (c_of g P _ xs _ (h.alloc _) hp (RdS_lit w xs 9 xs.length) hl hl' (ne_of_new h.lt)).mono fun _ _ ⟨x, a, b, c, d⟩ => ⟨x, a, b, c, grownBy_trans (World.grownBy_alloc _ _ _) d⟩

end Go.Proofs.YtdgnhplaakjlgaaGreatDoor

namespace Go.Proofs.YtdgnhplaakjlgaaGreatDoor
set_option linter.unusedVariables false
open Go.RowKit

/-- the post ahead of the last operation -/
def LastQ (P : Program) (ops : Array Oper) (n : Nat) (Q : Exit → Act → World → Prop) : Exit → Act → World → Prop
  | .normal, a, w => wpOp P ops Q n (fun a w => Q .normal a w) a w
  | e, a, w => Q e a w
/-- the operation o waits for all of ops, and none of these for it -/
def lastB (md : Region.Mode) (ops : Array Oper) (o : Oper) : Bool :=
  ((List.range ops.size).all fun i => match ops[i]? with
    | none => false
    | some oi => (oi.after.all fun e => !Region.binds md e || decide (e.on < i)) && (match oi.guard with | some (g, _) => decide (g < ops.size) | none => true)) &&
  ((List.range ops.size).all fun i => o.after.any fun e => Region.binds md e && e.on == i) && (o.after.all fun e => !Region.binds md e || decide (e.on < ops.size))
section
variable {P : Program} {ops : Array Oper} {o : Oper} {Q : Exit → Act → World → Prop} {md : Region.Mode}
theorem lastB_op (h : lastB md ops o = true) {i : Nat} {oi : Oper} (hi : ops[i]? = some oi) : (∀ e ∈ oi.after, Region.binds md e = true → e.on < i) ∧ (∀ g b, oi.guard = some (g, b) → g < ops.size) := by
  unfold lastB at h
  simp only [Bool.and_eq_true, List.all_eq_true, List.mem_range] at h
  have hlt : i < ops.size := (Array.getElem?_eq_some_iff.1 hi).1
  have h1 := h.1.1 i hlt
  rw [hi] at h1
  simp only [Bool.and_eq_true, Array.all_eq_true_iff_forall_mem] at h1
  refine ⟨fun e he hb => ?_, fun g b hg => ?_⟩
  · have := h1.1 e he
    simpa [hb] using this
  · have := h1.2
    rw [hg] at this
    simpa using this
theorem lastB_wait (h : lastB md ops o = true) {i : Nat} (hi : i < ops.size) : ∃ e ∈ o.after, Region.binds md e = true ∧ e.on = i := by
  unfold lastB at h
  simp only [Bool.and_eq_true, List.all_eq_true, List.mem_range] at h
  obtain ⟨e, he, hb⟩ := Array.any_eq_true'.1 (h.1.2 i hi)
  simp only [Bool.and_eq_true, beq_iff_eq] at hb
  exact ⟨e, he, hb.1, hb.2⟩
theorem lastB_on (h : lastB md ops o = true) {e : Edge} (he : e ∈ o.after) (hb : Region.binds md e = true) : e.on < ops.size := by
  unfold lastB at h
  simp only [Bool.and_eq_true, Array.all_eq_true_iff_forall_mem] at h
  have := h.2 e he
  simpa [hb] using this
theorem push_getD (l : Array Bool) (i : Nat) (d : Bool) (h : i < l.size) : (l.push false).getD i d = l.getD i d := by
  simp [Array.getElem?_push, h, Nat.ne_of_lt h]
theorem push_op {i : Nat} (h : i < ops.size) : (ops.push o)[i]? = ops[i]? := by
  simp [Array.getElem?_push, Nat.ne_of_lt h]
theorem ready_push (h : lastB md ops o = true) {l : Array Bool} (hl : l.size = ops.size) {i : Nat} (hi : i < ops.size) :
    i ∈ Region.ready md (ops.push o) (l.push false) ↔ i ∈ Region.ready md ops l := by
  rw [mem_ready, mem_ready, push_getD l i true (by omega), push_op hi]
  constructor
  · rintro ⟨h0, oi, ho, ha⟩
    refine ⟨h0, oi, ho, fun e he hb => ?_⟩
    have := (lastB_op h ho).1 e he hb
    rw [← push_getD l e.on false (by omega)]
    exact ha e he hb
  · rintro ⟨h0, oi, ho, ha⟩
    refine ⟨h0, oi, ho, fun e he hb => ?_⟩
    have := (lastB_op h ho).1 e he hb
    rw [push_getD l e.on false (by omega)]
    exact ha e he hb
theorem ready_none (h : lastB md ops o = true) {l : Array Bool} (hl : l.size = ops.size) (hr : Region.ready md ops l = []) : ∀ i, i < ops.size → l.getD i false = true := by
  intro i
  induction i using Nat.strongRecOn with
  | _ i ih =>
    intro hi
    cases hc : l.getD i false with
    | true => rfl
    | false =>
      exfalso
      have hm : i ∈ Region.ready md ops l := by
        rw [mem_ready]
        refine ⟨?_, ops[i], by simp [hi], fun e he hb => ?_⟩
        · have hil : i < l.size := by omega
          simp [hil] at hc ⊢
          exact hc
        · have := (lastB_op h (i := i) (oi := ops[i]) (by simp [hi])).1 e he hb
          exact ih e.on this (by omega)
      rw [hr] at hm
      cases hm
theorem ready_lt {ops : Array Oper} {l : Array Bool} {i : Nat} (h : i ∈ Region.ready md ops l) : i < ops.size := by
  obtain ⟨_, oi, ho, _⟩ := mem_ready.1 h
  exact (Array.getElem?_eq_some_iff.1 ho).1
theorem set_push (l : Array Bool) (i : Nat) (h : i < l.size) : (l.push false).setIfInBounds i true = (l.setIfInBounds i true).push false := by
  apply Array.ext_getElem?
  intro j
  simp only [Array.getElem?_setIfInBounds, Array.getElem?_push, Array.size_push, Array.size_setIfInBounds]
  by_cases hj : i = j
  · subst hj
    simp [h, Nat.ne_of_lt h]
    omega
  · simp [hj]
theorem wpOp_swap (h : lastB md ops o = true) {n i : Nat} (hi : i < ops.size) {K K' : Act → World → Prop} (hK : ∀ a w, K a w → K' a w) {a : Act} {w : World}
    (hh : wpOp P ops (LastQ P (ops.push o) n Q) i K a w) : wpOp P (ops.push o) Q i K' a w := by
  unfold wpOp at *
  rw [push_op hi]
  have ho : ops[i]? = some ops[i] := by simp [hi]
  rw [ho] at hh ⊢
  simp only at hh ⊢
  have hw : Region.wanted ops[i] (yielded (ops.push o) a.tmps) = Region.wanted ops[i] (yielded ops a.tmps) := by
    unfold Region.wanted
    cases hg : ops[i].guard with
    | none => rfl
    | some gb =>
      obtain ⟨g, b⟩ := gb
      have := (lastB_op h ho).2 g b hg
      simp only [yielded, push_op this]
  rw [hw]
  split
  · rename_i hwt
    simp only [hwt, if_true] at hh
    rcases hh with hh | ⟨h1, h2⟩
    · left
      unfold Oper.wp at *
      generalize (execOp a.eval ops[i]).run P w = r at *
      cases r with
      | ok n w' =>
        cases n <;> simp only [Oper.upon] at hh ⊢ <;>
          first
            | exact hK _ _ hh
            | exact Calls.mono hh (fun e w'' he => by cases e <;> first | exact hK _ _ he | exact he)
            | exact Rows.mono hh (fun _ _ he => hK _ _ he)
      | halt x w' => cases x <;> simp only [Oper.upon] at hh ⊢ <;> exact hh
    · exact .inr ⟨h1, h2⟩
  · rename_i hwt
    simp only [hwt] at hh
    exact hK _ _ hh
theorem wpAny_lastAt (h : lastB md ops o = true) {l : Array Bool} (hl : l.size = ops.size) (hr : Region.ready md ops l = []) {a : Act} {w : World}
    (hq : LastQ P (ops.push o) ops.size Q .normal a w) (fuel : Nat) : wpAny P md (ops.push o) Q (fuel + 1) (l.push false) a w := by
  have hall := ready_none h hl hr
  have hn : ops.size ∈ Region.ready md (ops.push o) (l.push false) := by
    rw [mem_ready]
    refine ⟨by simp [← hl], o, by simp, fun e he hb => ?_⟩
    have := lastB_on h he hb
    rw [push_getD l e.on false (by omega)]
    exact hall _ this
  refine ⟨fun h0 => by (rw [h0] at hn; cases hn), fun i hi => ?_⟩
  have hlt : i < ops.size + 1 := by simpa using ready_lt hi
  by_cases hin : i < ops.size
  · have := (ready_push h hl hin).1 hi
    rw [hr] at this
    cases this
  · obtain rfl : i = ops.size := by omega
    refine wpOp_mono (fun a w hq => wpAny_done ?_ hq fuel) hq
    apply List.eq_nil_iff_forall_not_mem.2
    intro j hj
    have hjl : j < ops.size + 1 := by simpa using ready_lt hj
    have h0 := (mem_ready.1 hj).1
    by_cases hjn : j = ops.size
    · subst hjn
      simp [← hl] at h0
    · have h1 := hall j (by omega)
      have : ((l.push false).setIfInBounds ops.size true).getD j true = true := by
        rw [getD_set_ne true (Ne.symm hjn), push_getD l j true (by omega)]
        have hjl2 : j < l.size := by omega
        simp [hjl2] at h1 ⊢
        exact h1
      rw [this] at h0
      cases h0
theorem wpAny_last (h : lastB md ops o = true) : ∀ (fuel : Nat) (l : Array Bool) (a : Act) (w : World), l.size = ops.size →
    wpAny P md ops (LastQ P (ops.push o) ops.size Q) fuel l a w → wpAny P md (ops.push o) Q (fuel + 1) (l.push false) a w
  | 0, l, a, w, hl, hh => wpAny_lastAt h hl hh.1 hh.2 0
  | fuel + 1, l, a, w, hl, hh => by
    by_cases hr : Region.ready md ops l = []
    · exact wpAny_lastAt h hl hr (hh.1 hr) (fuel + 1)
    · obtain ⟨i, hi⟩ := List.exists_mem_of_ne_nil _ hr
      have hil := ready_lt hi
      refine ⟨fun h0 => ?_, fun j hj => ?_⟩
      · have := (ready_push h hl hil).2 hi
        rw [h0] at this
        cases this
      · have hjl : j < ops.size + 1 := by simpa using ready_lt hj
        have hjn : j ≠ ops.size := by
          rintro rfl
          obtain ⟨_, oj, hoj, ha⟩ := mem_ready.1 hj
          simp at hoj
          subst hoj
          obtain ⟨e, he, hb, hon⟩ := lastB_wait h hil
          have h1 := ha e he hb
          rw [hon, push_getD l i false (by omega)] at h1
          have h0 := (mem_ready.1 hi).1
          have hil2 : i < l.size := by omega
          simp [hil2] at h0 h1
          rw [h0] at h1
          cases h1
        have hjl2 : j < ops.size := by omega
        refine wpOp_swap h hjl2 (fun a' w' hk => ?_) (hh.2 j ((ready_push h hl hjl2).1 hj))
        rw [set_push l j (by omega)]
        exact wpAny_last h fuel (l.setIfInBounds j true) a' w' (by simp [hl]) hk
end
/-- the beginning: the last operation is split off -/
theorem wp_region_last {P : Program} {ops : Array Oper} {Q : Exit → Act → World → Prop} {S : World → Prop} {id : Nat} {a : Act} {w : World} {o : Oper} (ops' : Array Oper) (hops : ops = ops'.push o) (hm : P.follows .mixedOrders = true)
    (hb : lastB .any ops' o = true) (hS : S w.drew) (h : S w.drew → wpAnyH P .any ops' (LastQ P (ops'.push o) ops'.size Q) S ops'.size (Array.replicate ops'.size false) a w.drew) : (Code.region id ops true).wp P Q a w := by
  subst hops
  refine wp_region_any hm ?_
  have e : Array.replicate (ops'.push o).size false = (Array.replicate ops'.size false).push false := by
    rw [Array.size_push, Array.replicate_succ]
  rw [e, Array.size_push]
  exact wpAny_last hb _ _ _ _ (by simp) (wpAny_of_held _ _ _ _ (h hS))
/-- the same, the operations ahead of the last one reckoned -/
theorem wp_region_pop {P : Program} {ops : Array Oper} {Q : Exit → Act → World → Prop} {S : World → Prop} {id : Nat} {a : Act} {w : World} {o : Oper} {ops' : Array Oper} (hp : ops.pop = ops') (ho : ops.back? = some o) (hm : P.follows .mixedOrders = true)
    (hb : lastB .any ops' o = true) (hS : S w.drew) (h : S w.drew → wpAnyH P .any ops' (LastQ P ops ops'.size Q) S ops'.size (Array.replicate ops'.size false) a w.drew) : (Code.region id ops true).wp P Q a w := by
  have hne : ops.size ≠ 0 := by
    intro h0
    have h1 : ops = #[] := Array.eq_empty_of_size_eq_zero h0
    subst h1
    simp at ho
  obtain ⟨bs, c, rfl⟩ := Array.eq_push_of_size_ne_zero hne
  simp only [Array.back?_push, Option.some.injEq] at ho
  subst ho
  rw [Array.pop_push] at hp
  subst hp
  exact wp_region_last _ rfl hm hb hS h
end Go.Proofs.YtdgnhplaakjlgaaGreatDoor

namespace Go.Proofs.YtdgnhplaakjlgaaGreatDoor
set_option linter.unusedVariables false
open Go.RowKit

/-- a layout and a row of lines of the call's own are drawn -/
def DrawLS (w : World) (e : Ending) (w' : World) : Prop :=
  ∃ a b c : Int, ∃ v ys, e = .returned (.tuple #[.agg #[.int .i64 a, .int .i64 b, .int .i64 c], v]) ∧ OwnS w' w.heap.size v ys ∧ ys.length ≤ 20 ∧ (∀ y ∈ ys, y.size ≤ 200) ∧ Below w.heap.size w w'
theorem own_set_ne {w : World} {base e : Nat} {v : Value} {n : Nat} {xs : List Value} {b : Nat} (h : w.ownsRow base e 1 v n xs) (hb : ∀ k, v.ownBlock = some k → b ≠ k) (o : Nat) (u : Value) : (w.setCell ⟨b, o, none⟩ u).ownsRow base e 1 v n xs := by
  refine h.kept (grownBy_setCell w b o u) ?_
  cases hv : v.ownBlock with
  | none => exact .inl rfl
  | some k => exact .inr (fun e => by cases e; exact hb _ hv rfl)
theorem below_set3 {w W : World} {R : Nat} {u0 u1 u2 : Value} (h : Below w.heap.size w W) (hR : w.heap.size ≤ R) : Below w.heap.size w (((W.setCell ⟨R, 0, none⟩ u0).setCell ⟨R, 1, none⟩ u1).setCell ⟨R, 2, none⟩ u2) :=
  ((h.setCell (p := ⟨R, 0, none⟩) hR _).setCell (p := ⟨R, 1, none⟩) hR _).setCell (p := ⟨R, 2, none⟩) hR _
theorem keepRowB {w w' : World} {b : Nat} {v0 v1 v2 : Value} {t : TypeId} (hB : Below w.heap.size w w') (hb : w.heap[b]? = some (.cells #[v0, v1, v2] t (0, 0))) : w'.heap[b]? = some (.cells #[v0, v1, v2] t (0, 0)) := by
  rw [hB.block b (Array.getElem?_eq_some_iff.1 hb).1]; exact hb
theorem slice_toQ (y : ByteArray) (n : Nat) (h : n ≤ y.size) : ∃ T, (∀ W, (Instr.slice 9 (.string y) none (some (.int .i64 (n : Int))) none).run Tryz.prog W = .ok (.string T) W) ∧ T.size ≤ y.size := by
  refine ⟨y.extract 0 n, fun W => ?_, by rw [ByteArray.size_extract]; omega⟩
  rw [run_slice_string_to_if W 9 y .i64 n Tryz.underlying9, if_pos (by omega), Int.toNat_natCast]
theorem ownsAt {w : World} {base : Nat} {t : TypeId} {v : Value} {n : Nat} {xs : List Value} (h : w.ownsRow base t 1 v n xs) (h0 : 0 < n) : ∃ b cap, v = .slice (some ⟨b, 0, none⟩) n cap ∧ base ≤ b ∧ b < w.heap.size := by
  rcases h.2 with ⟨_, h2⟩ | ⟨g, cap, cur, hv, hb, hg, _⟩
  · omega
  · refine ⟨g, cap, hv, hb, ?_⟩
    by_cases h3 : g < w.heap.size
    · exact h3
    · rw [Array.getElem?_eq_none (by omega)] at hg; cases hg
theorem keepG {wa wb : World} {b k g : Nat} {u : Value} (h : wa.cell? ⟨b, k, none⟩ = some u ∧ wa.frozen? ⟨b, k, none⟩ = false) (hg : wa.grownBy wb (some g)) (hlt : b < wa.heap.size) (hne : b ≠ g) :
    wb.cell? ⟨b, k, none⟩ = some u ∧ wb.frozen? ⟨b, k, none⟩ = false := by
  have hh := hg.block b hlt (fun e => hne (by cases e; rfl))
  constructor
  · rw [← h.1]; unfold World.cell?; simp only [hh]
  · rw [← h.2]; unfold World.frozen?; simp only [hh]
theorem keepC {wa wb : World} {b k g : Nat} {u : Value} (h : wa.cell? ⟨b, k, none⟩ = some u) (hg : wa.grownBy wb (some g)) (hlt : b < wa.heap.size) (hne : b ≠ g) : wb.cell? ⟨b, k, none⟩ = some u := by
  have hh := hg.block b hlt (fun e => hne (by cases e; rfl))
  rw [← h]; unfold World.cell?; simp only [hh]
theorem own_set3 {w W : World} {base : Nat} {v : Value} {ys : List ByteArray} {u0 u1 u2 : Value} (h : W.ownsRow base 9 1 v ys.length (ys.map Value.string)) (hb : w.heap.size < base) : OwnS (((W.setCell ⟨w.heap.size, 0, none⟩ u0).setCell ⟨w.heap.size, 1, none⟩ u1).setCell ⟨w.heap.size, 2, none⟩ u2) w.heap.size v ys := by
  have hne : ∀ k, v.ownBlock = some k → w.heap.size ≠ k := fun k hk => by have := (h.lt k hk).1; omega
  exact ownsRow_monoS (own_set_ne (own_set_ne (own_set_ne h hne 0 _) hne 1 _) hne 2 _) (by omega)

set_option maxRecDepth 100000 in
set_option maxHeartbeats 3200000 in
theorem c_DrawReadPage (v : Value) (cs : List Int) (w : World) (hv : RdL w v (cs.map (Value.int .u8))) (hl : cs.length ≤ 1099511627776) (hb : ∀ n ∈ cs, (Lit.int .u8 n).wf = true) (hcap : CapOk v) :
    Calls Tryz.prog 5 #[v] w (DrawLS w) := by
  have hv0 := hv
  obtain ⟨a, cap, rfl, hv1⟩ := hv0
  clear hv1
  simp only [List.length_map] at hv hcap ⊢
  go_enter Tryz.func5, Tryz.ntmps5
  go_wp2_with fail
  refine (c_l9Open _ cs _ (hv.kept ((Below.refl _ _).alloc (Nat.le_refl _) _)) hl hb hcap).mono ?_
  rintro e w1 ⟨g, rfl, hr1, hgb, hB1⟩
  have hR1 : w1.heap[w.heap.size]? = some (.cells #[(.int .i64 (0)), (.int .i64 (0)), (.int .i64 (0))] 24 (0, 0)) := (hB1.block w.heap.size (by simp)).trans (heap_alloc_new w _)
  have hA1 : Below w.heap.size w w1 := balloc hB1
  have hgl := hr1.lt
  simp at hgb
  go_wp2_with fail
  refine (c_DrawPageLines _ cs w1 (hv.kept hA1) hl hb hcap).mono ?_
  rintro e w2 ⟨a, b, c, v2, xs2, n, rfl, ho2, hx2, hB2⟩
  have hA2 := bthen hA1 hB2
  have hR2 := keepRowB hB2 hR1
  have hr2 := hr1.kept hB2
  have hs2 := hB2.size
  clear hB1 hB2 hA1 hR1 hr1 hv hb hcap
  have HA2 : Hid (OwnI w2 w1.heap.size v2 xs2 ∧ Below w.heap.size w w2 ∧ IsRdB w2 g 0 ∧ w2.heap[w.heap.size]? = some (.cells #[(.int .i64 (0)), (.int .i64 (0)), (.int .i64 (0))] 24 (0, 0))) := ⟨ho2, hA2, hr2, hR2⟩
  clear ho2 hA2 hr2 hR2
  go_wp2_with fail
  refine (c_spec_PageLines a b c _ xs2 n _ (owns_RdI (HA2.out.1.alloc _)) (by omega)).mono ?_
  obtain ⟨hp1, hp2⟩ := plinS_small a b c xs2 n
  obtain ⟨L, hL⟩ : ∃ L, plinS a b c xs2 n = L := ⟨_, rfl⟩
  rw [hL] at hp1 hp2 ⊢
  have HLs : Hid (∀ y ∈ L, y.size ≤ 78) := hp2
  rintro e w3 ⟨v3, rfl, ho3, hB3⟩
  have hs3 := hB3.size
  simp at hs3
  have hr3 : IsRdB w3 g 0 := (HA2.out.2.2.1.alloc _).kept hB3
  have hL3 := keepRowB hB3 (heap_alloc_new w2 _)
  have hR3 : w3.heap[w.heap.size]? = some (.cells #[(.int .i64 (0)), (.int .i64 (0)), (.int .i64 (0))] 24 (0, 0)) := keepRowB hB3 ((Below.heap_alloc w2 _ _ (by omega)).trans HA2.out.2.2.2)
  have hA3 : Below w.heap.size w w3 := (HA2.out.2.1.alloc (by omega) _).trans (hB3.mono (by simp; omega))
  have ho3' : w3.ownsRow (w2.heap.size + 1) 9 1 v3 L.length (L.map Value.string) := by simpa [OwnS] using ho3
  clear hB3 HA2 hp2 hL ho3
  have hgw2 : ∀ k, (some g : Option Nat) = some k → k < w2.heap.size + 1 := fun k hk => by cases hk; omega
  have hgw3 : ∀ k, (some g : Option Nat) = some k → w.heap.size ≤ k := fun k hk => by cases hk; omega
  obtain ⟨a3, c3, hv3⟩ : ∃ a c, v3 = .slice a L.length c := by
    obtain ⟨a, cap, h, _⟩ := owns_RdS (xs := L) ho3'
    exact ⟨a, cap, by rw [h, List.length_map]⟩
  by_cases h0 : 0 < L.length
  · obtain ⟨bb, cap3, rfl, hb2, hb3⟩ := ownsAt ho3' h0
    clear hv3
    have i0 : (0 : Int) < (L.length : Int) := by omega
    go_wp2_with fail
    refine (d_pick g 0 _ w3 hr3 (by omega)).mono ?_
    rintro e w4 ⟨x, rfl, ⟨hx0, hx9⟩, hr4, hg4⟩
    have hL4 := keepRow hg4 hL3 (by omega)
    have hR4 := keepRow hg4 hR3 (by omega)
    have hA4 := hA3.grown hg4 (by omega) hgw3
    have ho4 := ownsRow_kept_new ho3' hg4 hgw2
    have hs4 := hg4.size
    clear hg4 hr3 hL3 hR3 hA3 ho3'
    by_cases hx : x = 0
    · subst hx
      go_wp2_with fail
      refine (d_pick g _ _ w4 hr4 (by omega)).mono ?_
      rintro e w5 ⟨y, rfl, ⟨hy0, hy9⟩, hr5, hg5⟩
      have hL5 := keepRow hg5 hL4 (by omega)
      have hR5 := keepRow hg5 hR4 (by omega)
      have hA5 := hA4.grown hg5 (by omega) hgw3
      have ho5 := ownsRow_kept_new ho4 hg5 hgw2
      have hs5 := hg5.size
      obtain ⟨k, rfl⟩ : ∃ k : Nat, y = k := ⟨y.toNat, by omega⟩
      have hk : k < L.length := by omega
      clear hg5 hr4 hL4 hR4 hA4 ho4 hy9
      have e0 : w5.cell? ⟨bb, k, none⟩ = some (.string (L.getD k noS)) := by
        have h := World.ownsRow.cellAt ho5 k (by omega)
        rw [List.getElem?_map, List.getElem?_eq_getElem hk] at h
        rw [show L.getD k noS = L[k] by simp [List.getD, hk]]
        exact h
      have hys : (L.getD k noS).size ≤ 78 := HLs.out _ (by simp [List.getD, hk])
      obtain ⟨q, hq⟩ : ∃ q, L.getD k noS = q := ⟨_, rfl⟩
      rw [hq] at e0 hys
      have i1 : (0 : Int) ≤ (k : Int) := by omega
      have i2 : (k : Int) < (L.length : Int) := by omega
      go_wp2_with fail
      refine (d_pick g _ _ w5 hr5 (by omega)).mono ?_
      rintro e w6 ⟨z, rfl, ⟨hz0, hz9⟩, hr6, hg6⟩
      have hL6 := keepRow hg6 hL5 (by omega)
      have hR6 := keepRow hg6 hR5 (by omega)
      have hA6 := hA5.grown hg6 (by omega) hgw3
      have ho6 := ownsRow_kept_new ho5 hg6 hgw2
      have hs6 := hg6.size
      obtain ⟨at', rfl⟩ : ∃ k : Nat, z = k := ⟨z.toNat, by omega⟩
      have hat : at' ≤ q.size := by omega
      have e6 := (World.ownsRow.cellAt ho6 k (by omega))
      clear hg6 hr5 hL5 hR5 hA5 ho5 hz9 e0
      go_wp2
      have hS0 : w6.drew.cell? ⟨bb, k, none⟩ = some (.string q) := by
        have h := e6
        rw [List.getElem?_map, List.getElem?_eq_getElem hk] at h
        rw [← hq, show L.getD k noS = L[k] by simp [List.getD, hk]]
        exact h
      obtain ⟨U, g2, hUs⟩ := slice_toQ q at' hat
      have i3 : (0 : Int) ≤ (at' : Int) := by omega
      have i4 : (at' : Int) ≤ (q.size : Int) := by omega
      clear e6
      have hlt : bb < w6.drew.heap.size := show bb < w6.heap.size by omega
      have hne : bb ≠ g := by omega
      have hrd : IsRdB w6.drew g (0 + 1 + 1 + 1) := hr6
      refine wp_region_pop (S := fun wx => wx.cell? ⟨bb, k, none⟩ = some (.string q)) (hp := by simp only [List.pop_toArray, List.dropLast]; rfl) (ho := rfl) (by kernel_rfl) (by kernel_rfl) hS0 (fun hHeld => ?rg0)
      -- REGION 7
      refine wpAnyH_take (i := 0) (v := ?rv1) rfl (by kernel_rfl) (by kernel_rfl) (by kernel_rfl) (fun _ _ _ h => h) (Or.inl ⟨by rfl, ?ry1⟩) (by assumption) ?rg1
      case ry1 => (intro wz hSw; (try dsimp only at hSw); go_simp; try (with_reducible rfl))
      simp only [List.getElem_toArray, List.getElem_cons_zero, Act.put, List.setIfInBounds_toArray, List.set_cons_zero, List.set_cons_succ]
      refine wpAnyH_take (i := 1) (v := ?rv2) rfl (by kernel_rfl) (by kernel_rfl) (by kernel_rfl) (fun _ _ _ h => h) (Or.inl ⟨by rfl, ?ry2⟩) (by assumption) ?rg2
      case ry2 => (intro wz hSw; (try dsimp only at hSw); go_simp; try (with_reducible rfl))
      simp only [List.getElem_toArray, List.getElem_cons_succ, List.getElem_cons_zero, Act.put, List.setIfInBounds_toArray, List.set_cons_zero, List.set_cons_succ]
      refine wpAnyH_take (i := 2) (v := ?rv3) rfl (by kernel_rfl) (by kernel_rfl) (by kernel_rfl) (fun _ _ _ h => h) (Or.inl ⟨by rfl, ?ry3⟩) (by assumption) ?rg3
      case ry3 => (intro wz hSw; (try dsimp only at hSw); go_simp; try (with_reducible rfl))
      simp only [List.getElem_toArray, List.getElem_cons_succ, List.getElem_cons_zero, Act.put, List.setIfInBounds_toArray, List.set_cons_zero, List.set_cons_succ]
      refine wpAnyH_take (i := 3) (v := ?rv4) rfl (by kernel_rfl) (by kernel_rfl) (by kernel_rfl) (fun _ _ _ h => h) (Or.inl ⟨by rfl, ?ry4⟩) (by assumption) ?rg4
      case ry4 => (intro wz hSw; (try dsimp only at hSw); go_simp; try (with_reducible rfl))
      simp only [List.getElem_toArray, List.getElem_cons_succ, List.getElem_cons_zero, Act.put, List.setIfInBounds_toArray, List.set_cons_zero, List.set_cons_succ]
      refine wpAnyH_take (i := 4) (v := ?rv5) rfl (by kernel_rfl) (by kernel_rfl) (by kernel_rfl) (fun _ _ _ h => h) (Or.inl ⟨by rfl, ?ry5⟩) (by assumption) ?rg5
      case ry5 => (intro wz hSw; (try dsimp only at hSw); go_simp; try (with_reducible rfl))
      simp only [List.getElem_toArray, List.getElem_cons_succ, List.getElem_cons_zero, Act.put, List.setIfInBounds_toArray, List.set_cons_zero, List.set_cons_succ]
      refine wpAnyH_take (i := 5) (v := ?rv6) rfl (by kernel_rfl) (by kernel_rfl) (by kernel_rfl) (fun _ _ _ h => h) (Or.inl ⟨by rfl, ?ry6⟩) (by assumption) ?rg6
      case ry6 => (intro wz hSw; (try dsimp only at hSw); go_simp; try (with_reducible rfl))
      simp only [List.getElem_toArray, List.getElem_cons_succ, List.getElem_cons_zero, Act.put, List.setIfInBounds_toArray, List.set_cons_zero, List.set_cons_succ]
      refine wpAnyH_take (i := 6) (v := ?rv7) rfl (by kernel_rfl) (by kernel_rfl) (by kernel_rfl) (fun _ _ _ h => h) (Or.inl ⟨by rfl, ?ry7⟩) (by assumption) ?rg7
      case ry7 => (intro wz hSw; (try dsimp only at hSw); go_simp; try (with_reducible rfl))
      simp only [List.getElem_toArray, List.getElem_cons_succ, List.getElem_cons_zero, Act.put, List.setIfInBounds_toArray, List.set_cons_zero, List.set_cons_succ]
      refine wpAnyH_take (i := 7) (v := ?rv8) rfl (by kernel_rfl) (by kernel_rfl) (by kernel_rfl) (fun _ _ _ h => h) (Or.inl ⟨by rfl, ?ry8⟩) (by assumption) ?rg8
      case ry8 => (intro wz hSw; (try dsimp only at hSw); go_simp; try (with_reducible rfl))
      simp only [List.getElem_toArray, List.getElem_cons_succ, List.getElem_cons_zero, Act.put, List.setIfInBounds_toArray, List.set_cons_zero, List.set_cons_succ]
      refine wpAnyH_take (i := 8) (v := ?rv9) rfl (by kernel_rfl) (by kernel_rfl) (by kernel_rfl) (fun _ _ _ h => h) (Or.inl ⟨by rfl, ?ry9⟩) (by assumption) ?rg9
      case ry9 => (intro wz hSw; (try dsimp only at hSw); go_simp; try (with_reducible rfl))
      simp only [List.getElem_toArray, List.getElem_cons_succ, List.getElem_cons_zero, Act.put, List.setIfInBounds_toArray, List.set_cons_zero, List.set_cons_succ]
      refine wpAnyH_take (i := 12) (v := ?rv10) rfl (by kernel_rfl) (by kernel_rfl) (by kernel_rfl) (fun _ _ _ h => h) (Or.inl ⟨by rfl, ?ry10⟩) (by assumption) ?rg10
      case ry10 => (intro wz hSw; (try dsimp only at hSw); go_simp; try (with_reducible rfl))
      simp only [List.getElem_toArray, List.getElem_cons_succ, List.getElem_cons_zero, Act.put, List.setIfInBounds_toArray, List.set_cons_zero, List.set_cons_succ]
      refine wpAnyH_take (i := 13) (v := ?rv11) rfl (by kernel_rfl) (by kernel_rfl) (by kernel_rfl) (fun _ _ _ h => h) (Or.inl ⟨by rfl, ?ry11⟩) (by assumption) ?rg11
      case ry11 => (intro wz hSw; (try dsimp only at hSw); go_simp; try (with_reducible rfl))
      simp only [List.getElem_toArray, List.getElem_cons_succ, List.getElem_cons_zero, Act.put, List.setIfInBounds_toArray, List.set_cons_zero, List.set_cons_succ]
      refine wpAnyH_take (i := 14) (v := ?rv12) rfl (by kernel_rfl) (by kernel_rfl) (by kernel_rfl) (fun _ _ _ h => h) (Or.inl ⟨by rfl, ?ry12⟩) (by assumption) ?rg12
      case ry12 => (intro wz hSw; (try dsimp only at hSw); go_simp; try (with_reducible rfl))
      simp only [List.getElem_toArray, List.getElem_cons_succ, List.getElem_cons_zero, Act.put, List.setIfInBounds_toArray, List.set_cons_zero, List.set_cons_succ]
      refine wpAnyH_take (i := 15) (v := ?rv13) rfl (by kernel_rfl) (by kernel_rfl) (by kernel_rfl) (fun _ _ _ h => h) (Or.inl ⟨by rfl, ?ry13⟩) (by assumption) ?rg13
      case ry13 => (intro wz hSw; (try dsimp only at hSw); go_simp; try (with_reducible rfl))
      simp only [List.getElem_toArray, List.getElem_cons_succ, List.getElem_cons_zero, Act.put, List.setIfInBounds_toArray, List.set_cons_zero, List.set_cons_succ]
      refine wpAnyH_take (i := 16) (v := ?rv14) rfl (by kernel_rfl) (by kernel_rfl) (by kernel_rfl) (fun _ _ _ h => h) (Or.inl ⟨by rfl, ?ry14⟩) (by assumption) ?rg14
      case ry14 => (intro wz hSw; (try dsimp only at hSw); go_simp; try (with_reducible rfl))
      simp only [List.getElem_toArray, List.getElem_cons_succ, List.getElem_cons_zero, Act.put, List.setIfInBounds_toArray, List.set_cons_zero, List.set_cons_succ]
      refine wpAnyH_take (i := 17) (v := ?rv15) rfl (by kernel_rfl) (by kernel_rfl) (by kernel_rfl) (fun _ _ _ h => h) (Or.inl ⟨by rfl, ?ry15⟩) (by assumption) ?rg15
      case ry15 => (intro wz hSw; (try dsimp only at hSw); go_simp; try (with_reducible rfl))
      simp only [List.getElem_toArray, List.getElem_cons_succ, List.getElem_cons_zero, Act.put, List.setIfInBounds_toArray, List.set_cons_zero, List.set_cons_succ]
      refine wpAnyH_take (i := 20) (v := ?rv16) rfl (by kernel_rfl) (by kernel_rfl) (by kernel_rfl) (fun _ _ _ h => h) (Or.inl ⟨by rfl, ?ry16⟩) (by assumption) ?rg16
      case ry16 => (intro wz hSw; (try dsimp only at hSw); go_simp; try (with_reducible rfl))
      simp only [List.getElem_toArray, List.getElem_cons_succ, List.getElem_cons_zero, Act.put, List.setIfInBounds_toArray, List.set_cons_zero, List.set_cons_succ]
      refine wpAnyH_take (i := 21) (v := ?rv17) rfl (by kernel_rfl) (by kernel_rfl) (by kernel_rfl) (fun _ _ _ h => h) (Or.inl ⟨by rfl, ?ry17⟩) (by assumption) ?rg17
      case ry17 => (intro wz hSw; (try dsimp only at hSw); go_simp; try (with_reducible rfl))
      simp only [List.getElem_toArray, List.getElem_cons_succ, List.getElem_cons_zero, Act.put, List.setIfInBounds_toArray, List.set_cons_zero, List.set_cons_succ]
      refine wpAnyH_take (i := 22) (v := ?rv18) rfl (by kernel_rfl) (by kernel_rfl) (by kernel_rfl) (fun _ _ _ h => h) (Or.inl ⟨by rfl, ?ry18⟩) (by assumption) ?rg18
      case ry18 => (intro wz hSw; (try dsimp only at hSw); go_simp; try (with_reducible rfl))
      simp only [List.getElem_toArray, List.getElem_cons_succ, List.getElem_cons_zero, Act.put, List.setIfInBounds_toArray, List.set_cons_zero, List.set_cons_succ]
      refine wpAnyH_take (i := 23) (v := ?rv19) rfl (by kernel_rfl) (by kernel_rfl) (by kernel_rfl) (fun _ _ _ h => h) (Or.inl ⟨by rfl, ?ry19⟩) (by assumption) ?rg19
      case ry19 => (intro wz hSw; (try dsimp only at hSw); go_simp; try (with_reducible rfl))
      simp only [List.getElem_toArray, List.getElem_cons_succ, List.getElem_cons_zero, Act.put, List.setIfInBounds_toArray, List.set_cons_zero, List.set_cons_succ]
      refine wpAnyH_take (i := 24) (v := ?rv20) rfl (by kernel_rfl) (by kernel_rfl) (by kernel_rfl) (fun _ _ _ h => h) (Or.inl ⟨by rfl, ?ry20⟩) (by assumption) ?rg20
      case ry20 => (intro wz hSw; (try dsimp only at hSw); go_simp; try (with_reducible rfl))
      simp only [List.getElem_toArray, List.getElem_cons_succ, List.getElem_cons_zero, Act.put, List.setIfInBounds_toArray, List.set_cons_zero, List.set_cons_succ]
      refine wpAnyH_ready (rs := [9]) (by kernel_rfl) (by simp) ?_
      refine AllReadyH.cons (o := _) rfl (fun K hK => ?rs21) AllReadyH.nil
      go_simp
      (try dsimp only)
      refine hK.out _ _ ?rk21 (fun hHeld => ?rg21)
      case rk21 => exact keepC hS0 (World.grownBy_alloc _ _ (some g)) hlt hne
      clear hK K
      try simp only [List.getElem_toArray, List.getElem_cons_succ, List.getElem_cons_zero, Act.put, List.setIfInBounds_toArray, List.set_cons_zero, List.set_cons_succ]
      refine wpAnyH_ready (rs := [10]) (by kernel_rfl) (by simp) ?_
      refine AllReadyH.cons (o := _) rfl (fun K hK => ?rs22) AllReadyH.nil
      go_simp
      go_at_call 24
      refine (d_strlit g _ [⟨#[]⟩, ⟨#[32]⟩, ⟨#[48]⟩, ⟨#[45]⟩, ⟨#[120]⟩, ⟨#[49]⟩] w6.drew hrd (by omega) (by decide) (by decide)).mono ?_
      rintro e w7 ⟨zz, rfl, hz, hr7, hg7⟩
      have hzs : zz.size ≤ 1 := (show ∀ s ∈ ([⟨#[]⟩, ⟨#[32]⟩, ⟨#[48]⟩, ⟨#[45]⟩, ⟨#[120]⟩, ⟨#[49]⟩] : List ByteArray), s.size ≤ 1 by decide) zz hz
      have hS7 := keepC hS0 hg7 hlt hne
      have hs7 := hg7.size
      have h1 : (9223372036854775807 < U.size + zz.size) = False := eq_false (by omega)
      (try dsimp only)
      refine hK.out _ _ ?rk22 (fun hHeld => ?rg22)
      case rk22 => exact hS7
      clear hK K
      try simp only [List.getElem_toArray, List.getElem_cons_succ, List.getElem_cons_zero, Act.put, List.setIfInBounds_toArray, List.set_cons_zero, List.set_cons_succ]
      refine wpAnyH_take (i := 11) (v := ?rv23) rfl (by kernel_rfl) (by kernel_rfl) (by kernel_rfl) (fun _ _ _ h => h) (Or.inl ⟨by rfl, ?ry23⟩) (by assumption) ?rg23
      case ry23 => (intro wz hSw; (try dsimp only at hSw); go_simp; try (with_reducible rfl))
      simp only [List.getElem_toArray, List.getElem_cons_succ, List.getElem_cons_zero, Act.put, List.setIfInBounds_toArray, List.set_cons_zero, List.set_cons_succ]
      refine wpAnyH_ready (rs := [18]) (by kernel_rfl) (by simp) ?_
      refine AllReadyH.cons (o := _) rfl (fun K hK => ?rs24) AllReadyH.nil
      go_simp
      go_at_call 23
      refine (d_pick g _ _ _ hr7 (by omega)).mono ?_
      rintro e w8 ⟨x7, rfl, ⟨hxa7, hxb7⟩, hr8, hg8⟩
      obtain ⟨N, rfl⟩ : ∃ N : Nat, x7 = N := ⟨x7.toNat, by omega⟩
      have hN : N ≤ 1 := by omega
      obtain ⟨M, hM1, hM2⟩ : ∃ M : Nat, min ((at' : Int) + (N : Int)) (q.size : Int) = (M : Int) ∧ M ≤ q.size := ⟨min (at' + N) q.size, by omega, by omega⟩
      obtain ⟨T, g3, hTs, _⟩ := slice_fromT q M hM2
      have hw : IntKind.i64.wrap ((at' : Int) + (N : Int)) = (at' : Int) + (N : Int) := IntWalk.i64_in _ (by omega)
      have hS8 := keepC hS7 hg8 (by omega) hne
      have hs8 := hg8.size
      have h2 : (9223372036854775807 < U.size + zz.size + T.size) = False := eq_false (by omega)
      (try dsimp only)
      refine hK.out _ _ ?rk24 (fun hHeld => ?rg24)
      case rk24 => exact hS8
      clear hK K
      try simp only [List.getElem_toArray, List.getElem_cons_succ, List.getElem_cons_zero, Act.put, List.setIfInBounds_toArray, List.set_cons_zero, List.set_cons_succ]
      refine wpAnyH_take (i := 19) (v := ?rv25) rfl (by kernel_rfl) (by kernel_rfl) (by kernel_rfl) (fun _ _ _ h => h) (Or.inl ⟨by rfl, ?ry25⟩) (by assumption) ?rg25
      case ry25 => (intro wz hSw; (try dsimp only at hSw); go_simp; try (with_reducible rfl))
      simp only [List.getElem_toArray, List.getElem_cons_succ, List.getElem_cons_zero, Act.put, List.setIfInBounds_toArray, List.set_cons_zero, List.set_cons_succ]
      refine wpAnyH_take (i := 25) (v := ?rv26) rfl (by kernel_rfl) (by kernel_rfl) (by kernel_rfl) (fun _ _ _ h => h) (Or.inl ⟨by rfl, ?ry26⟩) (by assumption) ?rg26
      case ry26 => (intro wz hSw; (try dsimp only at hSw); go_simp; try (with_reducible rfl))
      simp only [List.getElem_toArray, List.getElem_cons_succ, List.getElem_cons_zero, Act.put, List.setIfInBounds_toArray, List.set_cons_zero, List.set_cons_succ]
      refine wpAnyH_take (i := 26) (v := ?rv27) rfl (by kernel_rfl) (by kernel_rfl) (by kernel_rfl) (fun _ _ _ h => h) (Or.inl ⟨by rfl, ?ry27⟩) (by assumption) ?rg27
      case ry27 => (intro wz hSw; (try dsimp only at hSw); go_simp; try (with_reducible rfl))
      simp only [List.getElem_toArray, List.getElem_cons_succ, List.getElem_cons_zero, Act.put, List.setIfInBounds_toArray, List.set_cons_zero, List.set_cons_succ]
      refine wpAnyH_take (i := 27) (v := ?rv28) rfl (by kernel_rfl) (by kernel_rfl) (by kernel_rfl) (fun _ _ _ h => h) (Or.inl ⟨by rfl, ?ry28⟩) (by assumption) ?rg28
      case ry28 => (intro wz hSw; (try dsimp only at hSw); go_simp; try (with_reducible rfl))
      simp only [List.getElem_toArray, List.getElem_cons_succ, List.getElem_cons_zero, Act.put, List.setIfInBounds_toArray, List.set_cons_zero, List.set_cons_succ]
      refine wpAnyH_take (i := 28) (v := ?rv29) rfl (by kernel_rfl) (by kernel_rfl) (by kernel_rfl) (fun _ _ _ h => h) (Or.inl ⟨by rfl, ?ry29⟩) (by assumption) ?rg29
      case ry29 => (intro wz hSw; (try dsimp only at hSw); go_simp; try (with_reducible rfl))
      simp only [List.getElem_toArray, List.getElem_cons_succ, List.getElem_cons_zero, Act.put, List.setIfInBounds_toArray, List.set_cons_zero, List.set_cons_succ]
      refine wpAnyH_done (by kernel_rfl) ?_ _
      -- END 7
      obtain ⟨X, hX⟩ : ∃ X, U ++ zz ++ T = X := ⟨_, rfl⟩
      have hXs : X.size ≤ 200 := by rw [← hX, ByteArray.size_append, ByteArray.size_append]; omega
      have ho8 := ownsRow_kept_new (ownsRow_kept_new (w := w6.drew) ho6 hg7 hgw2) hg8 hgw2
      have f8 := World.ownsRow.frozenAt ho8 k
      have e8 : w8.cell? ⟨bb, k, none⟩ = some (.string q) := hS8
      have hst := (World.ownsRow.stored ho8 k (.string X)).1
      rw [← List.map_set] at hst
      have hL9 := keepRow (grownBy_setCell w8 bb k (.string X)) (keepRow hg8 (keepRow (w := w6.drew) hg7 hL6 (by omega)) (by omega)) (by omega)
      have hR9 := keepRow (grownBy_setCell w8 bb k (.string X)) (keepRow hg8 (keepRow (w := w6.drew) hg7 hR6 (by omega)) (by omega)) (by omega)
      have hA9 : Below w.heap.size w (w8.setCell ⟨bb, k, none⟩ (.string X)) := ((hA6.drew.grown hg7 (show w.heap.size ≤ w6.heap.size by omega) hgw3).grown hg8 (by omega) hgw3).setCell (p := ⟨bb, k, none⟩) (by show w.heap.size ≤ bb; omega) _
      obtain ⟨W9, hW9⟩ : ∃ W9, w8.setCell ⟨bb, k, none⟩ (.string X) = W9 := ⟨_, rfl⟩
      rw [hW9] at hst hL9 hR9 hA9
      have HF : Hid (W9.ownsRow (w2.heap.size + 1) 9 1 (.slice (some ⟨bb, 0, none⟩) L.length cap3) L.length ((L.set k X).map Value.string) ∧ Below w.heap.size w W9 ∧ (∀ y ∈ L.set k X, y.size ≤ 200)) := ⟨hst, hA9, fun y hy => by
        rcases List.mem_or_eq_of_mem_set hy with h9 | h9
        · have := HLs.out y h9; omega
        · rw [h9]; exact hXs⟩
      obtain ⟨l0, l1, l2, lf0, lf1, lf2⟩ := rowFacts hL9
      obtain ⟨r0, r1, r2, rf0, rf1, rf2⟩ := rowFacts hR9
      clear hst hA9 hL9 hR9 ho8 hL6 hR6 hA6 ho6 hg7 hg8 hr6 hr7 hr8 hrd hS0 hS7 hS8 hz hHeld
      simp only [LastQ, wpOp]
      go_simp
      refine .inl ?_
      (try rw [hX])
      (try rw [hW9])
      clear hW9 e8 f8 hX
      go_wp2
      refine bodyPost_ret (v := .tuple #[.agg #[(.int .i64 (a)), (.int .i64 (b)), (.int .i64 (c))], .slice (some ⟨bb, 0, none⟩) L.length cap3]) (by simp [results, Tryz.results5, go_sem, r0, r1, r2]) rfl ⟨a, b, c, _, L.set k X, rfl, own_set3 (by rw [List.length_set]; exact HF.out.1) (by omega), by rw [List.length_set]; exact hp1, HF.out.2.2, below_set3 HF.out.2.1 (Nat.le_refl _)⟩
    · have e0 : (x == 0) = false := beq_eq_false_iff_ne.2 hx
      obtain ⟨l0, l1, l2, lf0, lf1, lf2⟩ := rowFacts hL4
      obtain ⟨r0, r1, r2, rf0, rf1, rf2⟩ := rowFacts hR4
      have HF : Hid (w4.ownsRow (w2.heap.size + 1) 9 1 (.slice (some ⟨bb, 0, none⟩) L.length cap3) L.length (L.map Value.string) ∧ Below w.heap.size w w4) := ⟨ho4, hA4⟩
      clear ho4 hA4 hL4 hR4 hr4 hx
      go_wp2
      refine bodyPost_ret (v := .tuple #[.agg #[(.int .i64 (a)), (.int .i64 (b)), (.int .i64 (c))], .slice (some ⟨bb, 0, none⟩) L.length cap3]) (by simp [results, Tryz.results5, go_sem, r0, r1, r2]) rfl ⟨a, b, c, _, L, rfl, own_set3 HF.out.1 (by omega), hp1, fun y hy => by have := HLs.out y hy; omega, below_set3 HF.out.2 (Nat.le_refl _)⟩
  · subst hv3
    have i9 : ¬ (0 : Int) < (L.length : Int) := by omega
    obtain ⟨l0, l1, l2, lf0, lf1, lf2⟩ := rowFacts hL3
    obtain ⟨r0, r1, r2, rf0, rf1, rf2⟩ := rowFacts hR3
    have HF : Hid (w3.ownsRow (w2.heap.size + 1) 9 1 (.slice a3 L.length c3) L.length (L.map Value.string) ∧ Below w.heap.size w w3) := ⟨ho3', hA3⟩
    clear ho3' hA3 hL3 hR3 hr3
    go_wp2
    refine bodyPost_ret (v := .tuple #[.agg #[(.int .i64 (a)), (.int .i64 (b)), (.int .i64 (c))], .slice a3 L.length c3]) (by simp [results, Tryz.results5, go_sem, r0, r1, r2]) rfl ⟨a, b, c, _, L, rfl, own_set3 HF.out.1 (by omega), hp1, fun y hy => by have := HLs.out y hy; omega, below_set3 HF.out.2 (Nat.le_refl _)⟩
end Go.Proofs.YtdgnhplaakjlgaaGreatDoor
