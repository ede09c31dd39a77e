/- Contracts: checked polynomials, the least degree of a table, the polynomial with a table; program and reference. -/
import Derived.Test.YthjehjdcpfefcaaPoly3
namespace Go.Proofs.Ythjehjdcpfefcaa
set_option linter.unusedVariables false
open Go.RowKit

set_option maxRecDepth 20000 in
theorem c_checked_t (v : Value) (p : List Int) (w : World) (ha : RdI w v p) (hp : polyB p = true) :
    Calls Try.prog 76 #[v] w fun e w' => e = .returned (.tuple #[v, .bool true]) ∧ Below w.heap.size w w' := by
  have hl := (polyB_iff hp).2.1
  go_enter Try.func76, Try.ntmps76
  go_wp2_with fail
  refine (c_impl_PolyValid v p _ ha (by omega)).mono ?_
  rw [hp]
  rintro e w1 ⟨rfl, hB⟩
  go_wp2
  go_ret2
  exact ⟨rfl, hB⟩
set_option maxRecDepth 20000 in
theorem c_checked_f (v : Value) (p : List Int) (w : World) (ha : RdI w v p) (hx : p.length ≤ 1099511627776) (hp : polyB p = false) :
    Calls Try.prog 76 #[v] w fun e w' => e = .returned (.tuple #[.slice none 0 0, .bool false]) ∧ Below w.heap.size w w' := by
  go_enter Try.func76, Try.ntmps76
  go_wp2_with fail
  refine (c_impl_PolyValid v p _ ha hx).mono ?_
  rw [hp]
  rintro e w1 ⟨rfl, hB⟩
  go_wp2
  go_ret2
  exact ⟨rfl, hB⟩
/-- first differences that are a polynomial, or nothing -/
def resL (p : List Int) : List Int := if polyB p = true then p else []
set_option maxRecDepth 20000 in
theorem c_l2Result (v : Value) (xs : List Int) (w : World) (ha : RdI w v xs) (hx : xs.length ≤ 60) (hb : ∀ k, bdI (nxtN k xs)) :
    Calls Try.prog 80 #[v] w (FreshIB w (resL (fd xs)) (polyB (fd xs))) := by
  have hfl := fd_len xs
  obtain ⟨p, hp⟩ : ∃ p, fd xs = p := ⟨_, rfl⟩
  have hc := c_l2Diffs v xs w ha hx hb
  rw [hp] at hc hfl ⊢
  have hl : p.length ≤ 60 := by omega
  clear hp hfl hb ha
  cases hv : polyB p
  · have E : Hid (resL p = []) := if_neg (by rw [hv]; decide)
    go_enter Try.func80, Try.ntmps80
    go_wp2_with fail
    refine hc.mono ?_
    rintro e w1 ⟨u, rfl, ho, hB⟩
    go_wp2_with fail
    refine (c_spec_PolyValid u p _ (owns_RdI ho) (by omega)).mono ?_
    rw [hv]
    rintro e w2 ⟨rfl, hB2⟩
    have HF : Hid (FreshIB w (resL p) false (.returned (.tuple #[.slice (some ⟨w2.heap.size, 0, none⟩) 0 0, .bool false])) (w2.alloc (.cells #[] 3))) := by
      refine ⟨_, rfl, ?_, ?_⟩
      · rw [E.out]
        exact ownsRow_mono (madeP0 w2) (by have := hB.size; have := hB2.size; omega)
      · exact bthen (bthen hB hB2) ((Below.refl _ _).alloc (Nat.le_refl _) _)
    clear hB hB2 ho hc
    go_wp2
    go_ret2
    exact HF.out
  · have E : Hid (resL p = p) := if_pos hv
    go_enter Try.func80, Try.ntmps80
    go_wp2_with fail
    refine hc.mono ?_
    rintro e w1 ⟨u, rfl, ho, hB⟩
    go_wp2_with fail
    refine (c_spec_PolyValid u p _ (owns_RdI ho) (by omega)).mono ?_
    rw [hv]
    rintro e w2 ⟨rfl, hB2⟩
    have HF : Hid (FreshIB w (resL p) true (.returned (.tuple #[u, .bool true])) w2) := by
      refine ⟨_, rfl, ?_, bthen hB hB2⟩
      rw [E.out]
      exact ownsRow_kept_below ho hB2
    clear hB hB2 ho hc
    go_wp2
    go_ret2
    exact HF.out

/-- the least degree, -2 if the numbers are no table -/
def ldF (xs : List Int) : Int := if tabB xs = true then ld xs else -2
theorem tabB_bd {xs : List Int} (h : tabB xs = true) : ∀ k, k ≤ 7 → bdI (nxtN k xs) := by
  intro k hk i
  obtain ⟨_, _, h3⟩ := tabB_iff h
  have hg : ∀ i, -1000000000 ≤ xs.getD i 0 ∧ xs.getD i 0 ≤ 1000000000 := fun i => by
    by_cases hi : i < xs.length
    · exact allIn_get h3 hi
    · simp [List.getD, Nat.le_of_not_lt hi]
  have h1 := nxtN_bd 1000000000 (by decide) k xs hg i
  have h2 : (2 : Int) ^ k ≤ 2 ^ 7 := pow_mono_right (by omega) hk
  have h3 : (2 : Int) ^ 7 = 128 := by decide
  omega
theorem ldN_z {f : Nat} {k : Int} {l : List Int} (h : allZ l = true) : ldN (f + 1) k l = k := if_pos h
theorem ldN_n {f : Nat} {k : Int} {l : List Int} (h : allZ l = false) : ldN (f + 1) k l = ldN f (k + 1) (nxt l) := if_neg (by rw [h]; decide)

set_option maxRecDepth 20000 in
set_option maxHeartbeats 400000 in
theorem c_spec_LeastDegree (v : Value) (xs : List Int) (w : World) (ha : RdI w v xs) (hx : xs.length ≤ 1099511627776) :
    Calls Try.prog 113 #[v] w fun e w' => e = .returned (.int .i64 (ldF xs)) ∧ Below w.heap.size w w' := by
  have hct := c_spec_TableValid v xs w ha hx
  cases hv : tabB xs
  · have E : Hid (ldF xs = -2) := if_neg (by rw [hv]; decide)
    rw [hv] at hct
    clear hv
    go_enter Try.func113, Try.ntmps113
    go_wp2_with fail
    refine hct.mono ?_
    rintro e w1 ⟨rfl, hB1⟩
    go_wp2
    go_ret
    exact ⟨ret_int E.out.symm, hB1⟩
  · have E : Hid (ldF xs = ldN 8 (-1) xs) := if_pos hv
    have HB : Hid (∀ k, k ≤ 7 → bdI (nxtN k xs)) := tabB_bd hv
    have hx60 := (tabB_iff hv).2.1
    rw [hv] at hct
    clear hv
    go_enter Try.func113, Try.ntmps113
    go_wp2_with fail
    refine hct.mono ?_
    rintro e w1 ⟨rfl, hB1⟩
    have har := ha.kept hB1
    clear ha hct
    go_wp2
    go_loopw [3, 4] (fun row i wr => ∃ (j : Nat) (row' : List Int), j ≤ 7 ∧ i = .int .i64 ((j : Int) - 1) ∧ Hid (row' = nxtN j xs) ∧ row'.length ≤ 60 ∧ RdI wr row row' ∧ Hid (ldF xs = ldN (8 - j) ((j : Int) - 1) row') ∧ Below w.heap.size w wr) (fun _ i _ => (7 - intOf i).toNat)
    case atStart => exact ⟨0, xs, by omega, rfl, rfl, by omega, har, E.out, hB1⟩
    case round =>
      obtain ⟨j, row', hj, rfl, HR, hrl, hr, HL, hB⟩ := hrel
      clear har hB1 E
      by_cases hlt : j < 7
      · have hr6 : row'.length ≤ 1099511627776 := by omega
        have h8 : 8 - j = (8 - (j + 1)) + 1 := by omega
        have hL := HL.out
        rw [h8] at hL
        have hbd : bdI row' := by rw [HR.out]; exact HB.out j (by omega)
        have HN : Hid (nxt row' = nxtN (j + 1) xs) := by show _ = _; rw [nxtN_succ, HR.out]
        have HNL : Hid ((nxt row').length ≤ 60) := by show _ ≤ _; rw [nxt_len]; omega
        have hz := c_l2Zero u3 row' wr hr hr6
        cases hzz : allZ row'
        · have HL2 : Hid (ldF xs = ldN (8 - (j + 1)) (((j + 1 : Nat) : Int) - 1) (nxt row')) := by
            show _ = _
            rw [hL, ldN_n hzz]
            congr 1
            push_cast; omega
          have HC : Hid (∀ W, RdI W u3 row' → Calls Try.prog 111 #[u3] W (FreshI W (nxt row'))) := fun W hW => c_l2Next u3 row' W hW (by omega) hbd
          rw [hzz] at hz
          clear hL hbd hzz h8 HL HR
          go_wp2_with fail
          refine hz.mono ?_
          rintro e w2 ⟨rfl, hB2⟩
          replace hr := hr.kept hB2
          replace hB := bthen hB hB2
          clear hB2 hz
          go_wp2_with fail
          refine (HC.out _ hr).mono ?_
          rintro e w3 ⟨u, rfl, ho, hB3⟩
          have HO : Hid (RdI w3 u (nxt row') ∧ Below w.heap.size w w3) := ⟨owns_RdI ho, bthen hB hB3⟩
          clear ho hB3 hB hr
          go_wp2
          go_roundw
          case rel => exact ⟨j + 1, nxt row', by omega, by go_num, HN.out, HNL.out, HO.out.1, HL2.out, HO.out.2⟩
          case measure => simp [intOf]; omega
        · have HE : Hid (ldF xs = (j : Int) - 1) := by show _ = _; rw [hL, ldN_z hzz]
          rw [hzz] at hz
          clear hL hbd hzz h8 HL HR HB
          go_wp2_with fail
          refine hz.mono ?_
          rintro e w2 ⟨rfl, hB2⟩
          replace hB := bthen hB hB2
          clear hB2 hz hr
          go_wp2
          go_ret
          exact ⟨ret_int HE.out.symm, hB⟩
      · obtain rfl : j = 7 := by omega
        have hr6 : row'.length ≤ 1099511627776 := by omega
        have hz := c_l2Zero u3 row' wr hr hr6
        have hL := HL.out
        cases hzz : allZ row'
        all_goals
          have HE : Hid (ldF xs = if allZ row' = true then 6 else 7) := by
            show _ = _
            rw [hL]
            rfl
          rw [hzz] at hz HE
          clear hL hzz HL HR HB
          go_wp2_with fail
          refine hz.mono ?_
          rintro e w2 ⟨rfl, hB2⟩
          replace hB := bthen hB hB2
          clear hB2 hz hr
          go_wp2
          go_ret
          exact ⟨ret_int HE.out.symm, hB⟩

/-- the polynomial with a table -/
def intB (xs : List Int) : Bool := tabB xs && decide (ld xs ≤ 6) && polyB (ip xs)
def intL (xs : List Int) : List Int := if intB xs = true then ip xs else []
theorem ipN_max {xs : List Int} : max (ld xs) 0 = ((iplN xs - 1 : Nat) : Int) := by have := ld_bd xs; unfold iplN; omega
theorem ipN_max1 {xs : List Int} : max (ld xs + 1) 1 = ((iplN xs : Nat) : Int) := by have := ld_bd xs; unfold iplN; omega
theorem take_bd {xs : List Int} (h : tabB xs = true) (m : Nat) (hm : m ≤ 7) : ∀ k, bdI (nxtN k (xs.take m)) := by
  intro k i
  by_cases hk : k ≤ 7
  · rw [nxtN_take]
    by_cases hi : i < m - k
    · rw [getD_take _ _ _ hi]; exact tabB_bd h k hk i
    · have : ((nxtN k xs).take (m - k)).getD i 0 = 0 := by simp [List.getD, List.getElem?_take, hi]
      rw [this]; simp
  · have : nxtN k (xs.take m) = [] := List.eq_nil_of_length_eq_zero (by rw [nxtN_len, List.length_take]; omega)
    rw [this]; simp
theorem RdI_take {w : World} {a : Option Addr} {n cap k : Nat} {xs : List Int} (h : RdI w (.slice a n cap) xs) (hk : k ≤ xs.length) : RdI w (.slice a k cap) (xs.take k) := by
  have hn : n = xs.length := by
    obtain ⟨a2, c2, e, _⟩ := h
    simp only [Value.slice.injEq, List.length_map] at e
    exact e.2.1
  subst hn
  obtain ⟨a2, c2, e, h⟩ := h
  simp only [Value.slice.injEq, List.length_map, true_and] at e
  obtain ⟨rfl, rfl⟩ := e
  refine ⟨a, cap, by simp [Nat.min_eq_left hk], ?_⟩
  rcases h with h | ⟨b, off, rfl, hlt, h⟩
  · exact .inl (by rw [List.map_eq_nil_iff] at h ⊢; rw [h]; simp)
  · refine .inr ⟨b, off, rfl, hlt, fun i hi => ?_⟩
    have hi' : i < k ∧ i < xs.length := by simp at hi; omega
    rw [h i (by simpa using hi'.2)]
    simp [hi'.1]

end Go.Proofs.Ythjehjdcpfefcaa
