/- Lemmas and contracts for WholePlan (Poly7): plain words on memory, contracts of the functions that the law reaches. No condition but what each states. -/
import Derived.Test.YtdfnclnjnmdboaaGreatDoorMWholePlanPoly3
import Derived.WalkSpells
namespace Go.Proofs.YtdfnclnjnmdboaaGreatDoor
set_option linter.unusedVariables false
open Go.RowKit

/-- append(s, u...): the elements of a slice that reads as a list -/
theorem sprR {P : Program} {ops : Array Oper} {rest : List Oper} {o : Oper} {a : Act} {Q : Exit → Act → World → Prop} {w : World} (t e : TypeId) {z : Value} {bytes : Nat}
    (ht : P.underlying t = some (.slice e)) (hi : (P.info? e).map (fun i => (i.zero, i.size, i.bytes)) = some (some z, 1, bytes)) (hz : z.cells.size = 1) (hby : bytes ≤ 64)
    (hgd : o.guard = none) (s x : Operand) (ho : o.op = .call { callee := .builtin .append, args := #[s, x], argTypes := #[t, t] })
    (base : Nat) (v : Value) (n : Nat) (xs : List Value) (hs : a.eval s = v) (hown : w.ownsRow base e 1 v n xs)
    (b : Addr) (m cap : Nat) (news : List Value) (hx : a.eval x = .slice (some b) m cap) (hu : RdL w (.slice (some b) m cap) news) (h1 : ∀ y ∈ news, y.oneCell' = true) (hn : n + m ≤ 2199023255550) (hbase : base ≤ w.heap.size)
    (h : ∀ v' w', w'.ownsRow base e 1 v' (n + m) (xs ++ news) → w.grownBy w' v.ownBlock → InOld w v v' → wpList P ops Q rest (a.put o.dst v') w') : wpList P ops Q (o :: rest) a w := by
  obtain ⟨i0, hi0, hz0, hz1, hz2⟩ := info_parts hi
  obtain ⟨a2, c2, e2, hu⟩ := hu
  simp only [Value.slice.injEq] at e2
  obtain ⟨rfl, hm, rfl⟩ := e2
  refine wpList_append_own_at (P := P) (w := w) hgd s x t ho base e i0 z 1 bytes ht hi0 hz0 hz1 hz2 hz (by decide) v n xs hs hown b m cap news hx (by omega) ?_ h1 ?_ ?_ hbase h
  · intro j u hj
    have hjl : j < news.length := by
      rcases Nat.lt_or_ge j news.length with h | h
      · exact h
      · rw [List.getElem?_eq_none h] at hj; cases hj
    rcases hu with rfl | ⟨g, off, e, _, hc⟩
    · simp at hjl
    · cases e
      rw [addr_add, hc j hjl, hj]
  · simp only [maxLen]; omega
  · have : (n + m) * bytes ≤ (n + m) * 64 := Nat.mul_le_mul_left _ hby
    omega

set_option maxRecDepth 20000 in
theorem c_clone (v : Value) (xs : List Int) (w : World) (ha : RdI w v xs) (hx : xs.length ≤ 1099511627776) :
    Calls Tryz.prog 93 #[v] w (FreshI w xs) := by
  have ha0 := ha
  obtain ⟨a, cap, rfl, ha1⟩ := ha0
  simp only [List.length_map] at ha ⊢
  cases a with
  | none =>
    have hx0 : xs = [] := by
      rcases ha1 with h | ⟨b, off, e, _⟩
      · simpa using h
      · cases e
    subst hx0
    have hq : ∀ W, (binOp .eql 32 (.slice none 0 cap) (.slice none 0 0)).run Tryz.prog W = .ok (.bool true) W := fun W => Lib.run_eql_slice_nil W _ _ none _ _ _ _ Tryz.underlying32
    clear ha1 ha
    go_enter Tryz.func93, Tryz.ntmps93
    go_wp2
    go_ret
    exact ⟨_, rfl, World.ownsRow_nil _ _ _ _, Below.refl _ _⟩
  | some b =>
    have hB0 : Below w.heap.size w (w.alloc (.cells #[] 3)) := (Below.refl _ _).alloc (Nat.le_refl _) _
    have ho0 := madeP0 w
    have har : RdL (w.alloc (.cells #[] 3)) (.slice (some b) xs.length cap) (xs.map (Value.int .i64)) := ha.kept hB0
    have hq : ∀ W, (binOp .eql 32 (.slice (some b) xs.length cap) (.slice none 0 0)).run Tryz.prog W = .ok (.bool false) W := fun W => Lib.run_eql_slice_nil W _ _ (some b) _ _ _ _ Tryz.underlying32
    clear ha1 ha
    go_enter Tryz.func93, Tryz.ntmps93
    go_wp2_with (at_builtin; refine sprR 32 3 Tryz.underlying32 infoInt rfl (by decide) rfl _ _ rfl w.heap.size _ _ _ rfl ho0 b xs.length cap _ rfl har ?c1 ?c2 ?c3 ?_)
    case c1 => intro y hy; obtain ⟨z, _, rfl⟩ := List.mem_map.1 hy; rfl
    case c2 => omega
    case c3 => simp
    intro v' w' ho hg hin
    have HF : Hid (FreshI w xs (.returned v') w') := ⟨_, rfl, by simpa using ho, hB0.grown hg (by simp) (fun j hj => by cases hj; exact Nat.le_refl _)⟩
    clear ho hg hin hB0 ho0 har
    go_wp2
    go_ret
    exact HF.out

/-- the length without zeros at the end, at least 1 where there is an element -/
def trimN (p : List Int) : Nat → Nat
  | 0 => 0
  | n + 1 => if 1 ≤ n ∧ p.getD n 0 = 0 then trimN p n else n + 1
theorem trimN_le (p : List Int) : ∀ n, trimN p n ≤ n
  | 0 => Nat.le_refl _
  | n + 1 => by
    unfold trimN
    split
    · have := trimN_le p n; omega
    · omega
theorem trimN_pos (p : List Int) : ∀ n, 1 ≤ n → 1 ≤ trimN p n
  | 0, h => by omega
  | n + 1, _ => by
    unfold trimN
    split
    · rename_i h; exact trimN_pos p n h.1
    · omega
def degP (p : List Int) : Int := if polyB p = true then (if allZ p = true then -1 else (trimN p p.length : Int) - 1) else -2
theorem degP_le {p : List Int} {d : Int} (h1 : (p.length : Int) ≤ d + 1) (h0 : -1 ≤ d) : degP p ≤ d := by
  unfold degP
  have := trimN_le p p.length
  split
  · split <;> omega
  · omega
theorem degP_ip {xs : List Int} {d : Int} (h : 1 ≤ xs.length) (h6 : ld xs ≤ 6) (hd : ld xs ≤ d) : degP (ip xs) ≤ d := by
  have hb := ld_bd xs
  by_cases hm : ld xs = -1
  · have hz := (ld_le (l := xs) (d := -1) (by omega) (by omega)).1 (by omega)
    rw [show ((-1 : Int) + 1).toNat = 0 from rfl] at hz
    replace hz : allZ xs = true := hz
    have : allZ (ip xs) = true := by unfold ip; exact allZ_fd (allZ_take hz _)
    unfold degP
    rw [this]
    split <;> simp <;> omega
  · apply degP_le _ (by omega)
    rw [ip_len h h6]
    unfold iplN; omega

end Go.Proofs.YtdfnclnjnmdboaaGreatDoor
