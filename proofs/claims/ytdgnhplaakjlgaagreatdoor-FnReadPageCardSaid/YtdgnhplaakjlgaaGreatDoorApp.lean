/- Plain laws: an append of one new element, or of a slice's elements, to a row of the call's own; a make of a row. -/
import Derived.Test.YtdgnhplaakjlgaaGreatDoorSl
namespace Go.Proofs.YtdgnhplaakjlgaaGreatDoor
set_option linter.unusedVariables false
open Go.RowKit

theorem infoInt : (Tryz.prog.info? 3).map (fun i => (i.zero, i.size, i.bytes)) = some (some (.int .i64 0), 1, 8) := by kernel_rfl
/-- a fresh slice of ints is returned; nothing old has turned -/
def FreshI (w : World) (xs : List Int) (e : Ending) (w' : World) : Prop :=
  ∃ v, e = .returned v ∧ w'.ownsRow w.heap.size 3 1 v xs.length (xs.map (Value.int .i64)) ∧ Below w.heap.size w w'

theorem grownBy_trans {a b c : World} {row : Option Nat} (h : a.grownBy b row) (k : b.grownBy c row) : a.grownBy c row :=
  ⟨k.os.trans h.os, k.tape.trans h.tape, k.output.trans h.output, Nat.le_trans h.size k.size, fun i hi hn => (k.block i (Nat.lt_of_lt_of_le hi h.size) hn).trans (h.block i hi hn)⟩
theorem grownBy_setCell (W : World) (b o : Nat) (v : Value) : W.grownBy (W.setCell ⟨b, o, none⟩ v) (some b) :=
  ⟨rfl, rfl, rfl, by simp [World.setCell], fun k _ hn => Below.heap_setCell _ _ _ _ (fun e => hn (by rw [e]))⟩
theorem below_grown {w w' : World} {row : Option Nat} {B : Nat} (h : w.grownBy w' row) (hB : B ≤ w.heap.size) (hr : ∀ k, row = some k → B ≤ k) : Below B w w' := (Below.refl _ _).grown h hB hr

/-- append(s, u): one new element; the walk has laid it in a new block of one cell -/
theorem app1 {P : Program} {ops : Array Oper} {rest : List Oper} {o : Oper} {a : Act} {Q : Exit → Act → World → Prop} {w : World} (t e : TypeId) {z u : Value} {bytes : Nat}
    (ht : P.underlying t = some (.slice e)) (hi : (P.info? e).map (fun i => (i.zero, i.size, i.bytes)) = some (some z, 1, bytes)) (hz : z.cells.size = 1) (hby : bytes ≤ 64)
    (hgd : o.guard = none) (s x : Operand) (ho : o.op = .call { callee := .builtin .append, args := #[s, x], argTypes := #[t, t] })
    (base : Nat) (v : Value) (n : Nat) (xs : List Value) (hs : a.eval s = v) (hown : w.ownsRow base e 1 v n xs)
    (hx : a.eval x = .slice (some ⟨w.heap.size, 0, none⟩) 1 1) (h1 : u.oneCell' = true) (hn : n ≤ 2199023255550) (hbase : base ≤ w.heap.size)
    (h : ∀ v' w', w'.ownsRow base e 1 v' (n + 1) (xs ++ [u]) → w.grownBy w' v.ownBlock → wpList P ops Q rest (a.put o.dst v') w') : wpList P ops Q (o :: rest) a (w.alloc (.cells #[u] e)) := by
  obtain ⟨i0, hi0, hz0, hz1, hz2⟩ := info_parts hi
  refine wpList_append_own (P := P) (w := w.alloc (.cells #[u] e)) hgd s x t ho base e i0 z 1 bytes ht hi0 hz0 hz1 hz2 hz (by decide) v n xs hs (hown.alloc _) ⟨w.heap.size, 0, none⟩ 1 1 [u] hx rfl ?_ ?_ ?_ ?_ ?_ ?_
  · intro j u' hj
    match j, hj with
    | 0, hj => simp at hj; subst hj; simp [Addr.add, go_sem]
    | j + 1, hj => simp at hj
  · intro u' hu; simp at hu; subst hu; exact h1
  · simp only [maxLen]; omega
  · have : (n + 1) * bytes ≤ (n + 1) * 64 := Nat.mul_le_mul_left _ hby
    omega
  · simp; omega
  · intro v' w' h2 h3 _
    exact h v' w' h2 (grownBy_trans (World.grownBy_alloc _ _ _) h3)

/-- make([]T, n): a new row of n zeroes -/
theorem mkfull {P : Program} {ops : Array Oper} {rest : List Oper} {o : Oper} {a : Act} {Q : Exit → Act → World → Prop} {w : World} (t e : TypeId) {z : Value} {bytes : Nat}
    (ht : P.underlying t = some (.slice e)) (hi : (P.info? e).map (fun i => (i.zero, i.size, i.bytes)) = some (some z, 1, bytes)) (hz : z.cells = #[z]) (hby : bytes ≤ 64)
    (hgd : o.guard = none) (l c : Operand) (ho : o.op = Op.makeSlice t l c) {kl kc : IntKind} {L C : Int} (n : Nat) (hl : a.eval l = .int kl L) (hc : a.eval c = .int kc C) (hL : L = (n : Int)) (hC : C = (n : Int)) (hn : n ≤ 2199023255550)
    (h : ∀ w', w'.ownsRow w.heap.size e 1 (.slice (some ⟨w.heap.size, 0, none⟩) n n) n (List.replicate n z) → Below w.heap.size w w' → w.heap.size < w'.heap.size → wpList P ops Q rest (a.put o.dst (.slice (some ⟨w.heap.size, 0, none⟩) n n)) w') : wpList P ops Q (o :: rest) a w := by
  obtain ⟨i0, hi0, hz0, hz1, hz2⟩ := info_parts hi
  have hb : i0.bytes * n ≤ 64 * n := Nat.mul_le_mul_right _ (by omega)
  refine wpList_make_full w hgd l c t ho w.heap.size e i0 z 1 ht hi0 hz0 hz1 kl kc L C n hl hc hL hC (by omega) (by simp only [maxLen]; omega) (Nat.le_refl _) ?_
  intro w' h1 h2
  rw [hz, Nat.mul_one, toList_madeCells_one] at h1
  exact h w' h1 (below_grown h2 (Nat.le_refl _) (fun k hk => by cases hk)) ((h1.lt w.heap.size rfl).2)

/-- make([]T, 0, n): a new empty row with room -/
theorem mkcap {P : Program} {ops : Array Oper} {rest : List Oper} {o : Oper} {a : Act} {Q : Exit → Act → World → Prop} {w : World} (t e : TypeId) {z : Value} {bytes : Nat}
    (ht : P.underlying t = some (.slice e)) (hi : (P.info? e).map (fun i => (i.zero, i.size, i.bytes)) = some (some z, 1, bytes)) (hby : bytes ≤ 64)
    (hgd : o.guard = none) (l c : Operand) (ho : o.op = Op.makeSlice t l c) {kl kc : IntKind} {C : Int} (n : Nat) (hl : a.eval l = .int kl 0) (hc : a.eval c = .int kc C) (hC : C = (n : Int)) (hn : n ≤ 2199023255550)
    (h : ∀ w', w'.ownsRow w.heap.size e 1 (.slice (some ⟨w.heap.size, 0, none⟩) 0 n) 0 [] → Below w.heap.size w w' → w.heap.size < w'.heap.size → wpList P ops Q rest (a.put o.dst (.slice (some ⟨w.heap.size, 0, none⟩) 0 n)) w') : wpList P ops Q (o :: rest) a w := by
  obtain ⟨i0, hi0, hz0, hz1, hz2⟩ := info_parts hi
  have hb : i0.bytes * n ≤ 64 * n := Nat.mul_le_mul_right _ (by omega)
  refine wpList_make_own w hgd l c t ho w.heap.size e i0 z 1 ht hi0 hz0 hz1 kl kc C n hl hc hC (by omega) (by simp only [maxLen]; omega) (Nat.le_refl _) ?_
  intro w' h1 h2
  exact h w' h1 (below_grown h2 (Nat.le_refl _) (fun k hk => by cases hk)) ((h1.lt w.heap.size rfl).2)

/-- a made row that is filled from the left: k of m elements are laid -/
def fill (f : Nat → Value) (z : Value) (k m : Nat) : List Value := (List.range m).map fun i => if i < k then f i else z
theorem fill_len (f : Nat → Value) (z : Value) (k m : Nat) : (fill f z k m).length = m := by simp [fill]
theorem fill_zero (f : Nat → Value) (z : Value) (m : Nat) : fill f z 0 m = List.replicate m z := by
  unfold fill
  apply List.ext_getElem
  · simp
  · intro i h1 h2; simp
theorem fill_set (f : Nat → Value) (z : Value) (k m : Nat) : (fill f z k m).set k (f k) = fill f z (k + 1) m := by
  apply List.ext_getElem
  · simp [fill]
  · intro i h1 h2
    simp only [fill, List.getElem_set, List.getElem_map, List.getElem_range]
    by_cases e : k = i
    · subst e; simp
    · rw [if_neg e]
      by_cases h : i < k
      · rw [if_pos h, if_pos (by omega)]
      · rw [if_neg h, if_neg (by omega)]
theorem fill_end (f : Nat → Value) (z : Value) (m : Nat) : fill f z m m = (List.range m).map f := by
  apply List.ext_getElem
  · simp [fill]
  · intro i h1 h2
    simp [fill] at h1 ⊢
    omega
/-- what the walk wants at the store of the element k -/
theorem fill_step {w : World} {base e g cap m k : Nat} {f : Nat → Value} {z : Value} (ho : w.ownsRow base e 1 (.slice (some ⟨g, 0, none⟩) m cap) m (fill f z k m)) (hk : k < m) :
    (∃ x, w.cell? ⟨g, k, none⟩ = some x) ∧ w.frozen? ⟨g, k, none⟩ = false ∧ (w.setCell ⟨g, k, none⟩ (f k)).ownsRow base e 1 (.slice (some ⟨g, 0, none⟩) m cap) m (fill f z (k + 1) m) := by
  refine ⟨?_, ho.frozenAt k, ?_⟩
  · rw [ho.cellAt k (by omega)]
    exact ⟨_, List.getElem?_eq_getElem (by rw [fill_len]; exact hk)⟩
  · have := (ho.stored k (f k)).1
    rwa [fill_set] at this
end Go.Proofs.YtdgnhplaakjlgaaGreatDoor
