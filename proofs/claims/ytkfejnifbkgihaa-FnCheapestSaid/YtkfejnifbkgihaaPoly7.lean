/- Contracts: copies of slices of ints, degrees of polynomials. -/
import Derived.Test.YtkfejnifbkgihaaPoly6
import Derived.WalkSpells
namespace Go.Proofs.Ytkfejnifbkgihaa
set_option linter.unusedVariables false
open Go.RowKit

/-- append(s, u...): the elements of a slice that reads as a list -/
theorem sprR {P : Program} {ops : Array Oper} {rest : List Oper} {o : Oper} {a : Act} {Q : Exit → Act → World → Prop} {w : World} (t e : TypeId) {z : Value} {bytes : Nat}
    (ht : P.underlying t = some (.slice e)) (hi : (P.info? e).map (fun i => (i.zero, i.size, i.bytes)) = some (some z, 1, bytes)) (hz : z.cells.size = 1) (hby : bytes ≤ 64)
    (hgd : o.guard = none) (s x : Operand) (ho : o.op = .call { callee := .builtin .append, args := #[s, x], argTypes := #[t, t] })
    (base : Nat) (v : Value) (n : Nat) (xs : List Value) (hs : a.eval s = v) (hown : w.ownsRow base e 1 v n xs)
    (b : Addr) (m cap : Nat) (news : List Value) (hx : a.eval x = .slice (some b) m cap) (hu : RdL w (.slice (some b) m cap) news) (h1 : ∀ y ∈ news, y.oneCell' = true) (hn : n + m ≤ 2199023255550) (hbase : base ≤ w.heap.size)
    (h : ∀ v' w', w'.ownsRow base e 1 v' (n + m) (xs ++ news) → w.grownBy w' v.ownBlock → InOld w v v' → wpList P ops Q rest (a.put o.dst v') w') : wpList P ops Q (o :: rest) a w := by
  obtain ⟨i0, hi0, hz0, hz1, hz2⟩ := info_parts hi
  obtain ⟨a2, c2, e2, hu⟩ := hu
  simp only [Value.slice.injEq] at e2
  obtain ⟨rfl, hm, rfl⟩ := e2
  refine wpList_append_own_at (P := P) (w := w) hgd s x t ho base e i0 z 1 bytes ht hi0 hz0 hz1 hz2 hz (by decide) v n xs hs hown b m cap news hx (by omega) ?_ h1 ?_ ?_ hbase h
  · intro j u hj
    have hjl : j < news.length := by
      rcases Nat.lt_or_ge j news.length with h | h
      · exact h
      · rw [List.getElem?_eq_none h] at hj; cases hj
    rcases hu with rfl | ⟨g, off, e, _, hc⟩
    · simp at hjl
    · cases e
      rw [addr_add, hc j hjl, hj]
  · simp only [maxLen]; omega
  · have : (n + m) * bytes ≤ (n + m) * 64 := Nat.mul_le_mul_left _ hby
    omega

theorem c_clone (v : Value) (xs : List Int) (w : World) (ha : RdI w v xs) (hx : xs.length ≤ 1099511627776) :
    Calls Try.prog 80 #[v] w (FreshI w xs) := by
  have ha0 := ha
  obtain ⟨a, cap, rfl, ha1⟩ := ha0
  simp only [List.length_map] at ha ⊢
  cases a with
  | none =>
    have hx0 : xs = [] := by
      rcases ha1 with h | ⟨b, off, e, _⟩
      · simpa using h
      · cases e
    subst hx0
    have hq : ∀ W, (binOp .eql 25 (.slice none 0 cap) (.slice none 0 0)).run Try.prog W = .ok (.bool true) W := fun W => Lib.run_eql_slice_nil W _ _ none _ _ _ _ Try.underlying25
    clear ha1 ha
    go_enter Try.func80, Try.ntmps80
    go_wp2
    go_ret
    exact ⟨_, rfl, World.ownsRow_nil _ _ _ _, Below.refl _ _⟩
  | some b =>
    have hB0 : Below w.heap.size w (w.alloc (.cells #[] 3)) := (Below.refl _ _).alloc (Nat.le_refl _) _
    have ho0 := made0 w
    have har : RdL (w.alloc (.cells #[] 3)) (.slice (some b) xs.length cap) (xs.map (Value.int .i64)) := ha.kept hB0
    have hq : ∀ W, (binOp .eql 25 (.slice (some b) xs.length cap) (.slice none 0 0)).run Try.prog W = .ok (.bool false) W := fun W => Lib.run_eql_slice_nil W _ _ (some b) _ _ _ _ Try.underlying25
    clear ha1 ha
    go_enter Try.func80, Try.ntmps80
    go_wp2_with (at_builtin; refine sprR 25 3 Try.underlying25 infoInt rfl (by decide) rfl _ _ rfl w.heap.size _ _ _ rfl ho0 b xs.length cap _ rfl har ?c1 ?c2 ?c3 ?_)
    case c1 => intro y hy; obtain ⟨z, _, rfl⟩ := List.mem_map.1 hy; rfl
    case c2 => omega
    case c3 => simp
    intro v' w' ho hg hin
    have HF : Hid (FreshI w xs (.returned v') w') := ⟨_, rfl, by simpa using ho, hB0.grown hg (by simp) (fun j hj => by cases hj; exact Nat.le_refl _)⟩
    clear ho hg hin hB0 ho0 har
    go_wp2
    go_ret
    exact HF.out

/-- the length without zeros at the end, at least 1 where there is an element -/
def trimN (p : List Int) : Nat → Nat
  | 0 => 0
  | n + 1 => if 1 ≤ n ∧ p.getD n 0 = 0 then trimN p n else n + 1
theorem trimN_le (p : List Int) : ∀ n, trimN p n ≤ n
  | 0 => Nat.le_refl _
  | n + 1 => by
    unfold trimN
    split
    · have := trimN_le p n; omega
    · omega
theorem trimN_pos (p : List Int) : ∀ n, 1 ≤ n → 1 ≤ trimN p n
  | 0, h => by omega
  | n + 1, _ => by
    unfold trimN
    split
    · rename_i h; exact trimN_pos p n h.1
    · omega
def degP (p : List Int) : Int := if polyB p = true then (if allZ p = true then -1 else (trimN p p.length : Int) - 1) else -2
theorem degP_le {p : List Int} {d : Int} (h1 : (p.length : Int) ≤ d + 1) (h0 : -1 ≤ d) : degP p ≤ d := by
  unfold degP
  have := trimN_le p p.length
  split
  · split <;> omega
  · omega
theorem degP_ip {xs : List Int} {d : Int} (h : 1 ≤ xs.length) (h6 : ld xs ≤ 6) (hd : ld xs ≤ d) : degP (ip xs) ≤ d := by
  have hb := ld_bd xs
  by_cases hm : ld xs = -1
  · have hz := (ld_le (l := xs) (d := -1) (by omega) (by omega)).1 (by omega)
    rw [show ((-1 : Int) + 1).toNat = 0 from rfl] at hz
    replace hz : allZ xs = true := hz
    have : allZ (ip xs) = true := by unfold ip; exact allZ_fd (allZ_take hz _)
    unfold degP
    rw [this]
    split <;> simp <;> omega
  · apply degP_le _ (by omega)
    rw [ip_len h h6]
    unfold ipN; omega

set_option maxHeartbeats 400000 in
theorem c_TrimPoly (v : Value) (p : List Int) (w : World) (ha : RdI w v p) (hcap : CapOk v) (hp : polyB p = true) :
    Calls Try.prog 48 #[v] w (FreshI w (p.take (trimN p p.length))) := by
  have hp7 := (polyB_iff hp).2.1
  have hp1 := (polyB_iff hp).1
  have hpv := c_impl_PolyValid v p w ha (by omega)
  rw [hp] at hpv
  have ha0 := ha
  obtain ⟨a, cap, rfl, ha1⟩ := ha0
  clear ha1 hp
  simp only [List.length_map] at ha hpv hcap ⊢
  have hcc : p.length ≤ cap := hcap _ _ _ rfl
  clear hcap
  go_enter Try.func48, Try.ntmps48
  go_wp2_with fail
  refine hpv.mono ?_
  rintro e w1 ⟨rfl, hB1⟩
  have ha2 := ha.kept hB1
  clear hpv ha
  go_wp2
  go_loopw [3] (fun i wr => ∃ k : Nat, k ≤ p.length ∧ 1 ≤ k ∧ i = .int .i64 k ∧ Hid (trimN p p.length = trimN p k) ∧ Below w1.heap.size w1 wr) (fun i _ => (intOf i).toNat)
  case atStart => exact ⟨p.length, by omega, hp1, rfl, rfl, Below.refl _ _⟩
  case round =>
    obtain ⟨k, hk, hk1, rfl, HT, hB⟩ := hrel
    by_cases h1 : 1 < k
    · obtain ⟨m, rfl⟩ : ∃ m, k = m + 2 := ⟨k - 2, by omega⟩
      obtain ⟨b1, o1, rfl, hb1, e1⟩ := RdI_cell ha2 hB (k := m + 1) (by omega)
      have HE : Hid (trimN p (m + 2) = if 1 ≤ m + 1 ∧ p.getD (m + 1) 0 = 0 then trimN p (m + 1) else m + 2) := rfl
      obtain ⟨y, hy⟩ : ∃ y, p.getD (m + 1) 0 = y := ⟨_, rfl⟩
      rw [hy] at e1 HE
      have g0 : IntKind.i64.wrap (((m + 2 : Nat) : Int) - 1) = (m : Int) + 1 := by rw [IntWalk.i64_in _ (by omega)]; omega
      have g1 : ((m : Int) + 1).toNat = m + 1 := by omega
      have g2 : (0 : Int) ≤ (m : Int) + 1 := by omega
      have g3 : (m : Int) + 1 < (p.length : Int) := by omega
      have g4 : (1 : Int) < (m : Int) + 2 := by omega
      have ha3 := ha2
      clear hy ha2
      by_cases hz : y = 0
      · subst hz
        have HN : Hid (trimN p p.length = trimN p (m + 1)) := by show _ = _; rw [HT.out, HE.out, if_pos ⟨by omega, rfl⟩]
        go_wp2
        go_roundw
        case rel => exact ⟨m + 1, by omega, by omega, by go_num, HN.out, hB⟩
        case measure => simp [intOf]; omega
      · have HN : Hid (p.take (trimN p p.length) = p.take (m + 2)) := by
          show _ = _; rw [HT.out, HE.out, if_neg (fun q => hz q.2)]
        have hz' : (y == 0) = false := by simpa using hz
        have HC := hidd (fun W (h : RdI W (.slice (some ⟨b1, o1, none⟩) p.length cap) p) => c_clone _ _ W (RdI_take h (k := m + 2) hk) (by simp; omega))
        have HX := hidd (ha3.kept hB)
        have hk' : m + 2 ≤ cap := by omega
        clear hz ha3
        go_wp2_with fail
        refine (HC.out _ HX.out).mono ?_
        rintro e w2 ⟨u, rfl, ho, hB2⟩
        have HF : Hid (FreshI w (p.take (trimN p p.length)) (.returned u) w2) := ⟨u, rfl, by rw [HN.out]; exact ownsRow_mono ho (Nat.le_trans hB1.size hB.size), bthen (bthen hB1 hB) hB2⟩
        clear ho hB2 hB hB1
        go_wp2
        go_ret
        exact HF.out
    · obtain rfl : k = 1 := by omega
      have HN : Hid (p.take (trimN p p.length) = p.take 1) := by
        show _ = _; rw [HT.out]; rfl
      have HC := hidd (fun W (h : RdI W (.slice a p.length cap) p) => c_clone _ _ W (RdI_take h (k := 1) hk) (by simp; omega))
      have HX := hidd (ha2.kept hB)
      have hk' : 1 ≤ cap := by omega
      clear ha2
      go_wp2_with fail
      refine (HC.out _ HX.out).mono ?_
      rintro e w2 ⟨u, rfl, ho, hB2⟩
      have HF : Hid (FreshI w (p.take (trimN p p.length)) (.returned u) w2) := ⟨u, rfl, by rw [HN.out]; exact ownsRow_mono ho (Nat.le_trans hB1.size hB.size), bthen (bthen hB1 hB) hB2⟩
      clear ho hB2 hB hB1
      go_wp2
      go_ret
      exact HF.out
theorem c_DegreeOf (v : Value) (p : List Int) (w : World) (ha : RdI w v p) (hcap : CapOk v) (hx : p.length ≤ 1099511627776) :
    Calls Try.prog 15 #[v] w fun e w' => e = .returned (.int .i64 (degP p)) ∧ Below w.heap.size w w' := by
  have hpv := c_impl_PolyValid v p w ha hx
  have hz := fun W (h : RdI W v p) => c_allZero v p W h hx
  cases hp : polyB p
  · have E : Hid (degP p = -2) := if_neg (by rw [hp]; decide)
    rw [hp] at hpv
    clear hp ha hz hcap hx
    go_enter Try.func15, Try.ntmps15
    go_wp2_with fail
    refine hpv.mono ?_
    rintro e w1 ⟨rfl, hB1⟩
    clear hpv
    go_wp2
    go_ret
    exact ⟨ret_int E.out.symm, hB1⟩
  · cases hzz : allZ p
    · have E : Hid (degP p = (trimN p p.length : Int) - 1) := by show _ = _; unfold degP; rw [if_pos hp, if_neg (by rw [hzz]; decide)]
      have hp7 := (polyB_iff hp).2.1
      have hle := trimN_le p p.length
      have HC : Hid (∀ W, RdI W v p → Calls Try.prog 48 #[v] W (FreshI W (p.take (trimN p p.length)))) := fun W h => c_TrimPoly v p W h hcap hp
      have HL : Hid ((p.take (trimN p p.length)).length = trimN p p.length) := by show _ = _; rw [List.length_take]; omega
      rw [hp] at hpv
      rw [hzz] at hz
      have HZ := hidd hz
      obtain ⟨m, hm⟩ : ∃ m, trimN p p.length = m := ⟨_, rfl⟩
      rw [hm] at hle E HL HC
      have hm7 : m ≤ 7 := by omega
      clear hp hzz hz hcap hx hm hle
      go_enter Try.func15, Try.ntmps15
      go_wp2_with fail
      refine hpv.mono ?_
      rintro e w1 ⟨rfl, hB1⟩
      have ha1 := ha.kept hB1
      clear hpv ha
      go_wp2_with fail
      refine (HZ.out _ ha1).mono ?_
      rintro e w2 ⟨rfl, hB2⟩
      have ha2 := ha1.kept hB2
      clear ha1
      go_wp2_with fail
      refine (HC.out _ ha2).mono ?_
      rintro e w3 ⟨u, rfl, ho, hB3⟩
      obtain ⟨au, cu, rfl, _⟩ := owns_RdI ho
      simp only [List.length_map]
      rw [HL.out]
      have HB := hidd (bthen (bthen hB1 hB2) hB3)
      clear ho ha2 hB1 hB2 hB3
      go_wp2
      go_ret
      exact ⟨ret_int (by rw [E.out]), HB.out⟩
    · have E : Hid (degP p = -1) := by show _ = _; unfold degP; rw [if_pos hp, if_pos hzz]
      rw [hp] at hpv
      rw [hzz] at hz
      have HZ := hidd hz
      clear hp hzz hz hcap hx
      go_enter Try.func15, Try.ntmps15
      go_wp2_with fail
      refine hpv.mono ?_
      rintro e w1 ⟨rfl, hB1⟩
      have ha1 := ha.kept hB1
      clear hpv ha
      go_wp2_with fail
      refine (HZ.out _ ha1).mono ?_
      rintro e w2 ⟨rfl, hB2⟩
      clear ha1
      go_wp2
      go_ret
      exact ⟨ret_int E.out.symm, bthen hB1 hB2⟩
end Go.Proofs.Ytkfejnifbkgihaa
